/- A repetition's node; a list of one tree, n times. -/
import Derived.Test.YtnjcfggadeakpaaG11
import Derived.Test.YtnjcfggadeakpaaG06
import Derived.Test.YtnjcfggadeakpaaG07
import Derived.Test.YtnjcfggadeakpaaG12
import Derived.Test.YtnjcfggadeakpaaG02
import Derived.Test.YtnjcfggadeakpaaG03
namespace Go.Proofs.Ytnjcfggadeakpaa
open Go.RowKit
attribute [local go_sem] gives givesUpon

-- def BL := [.int .i64 p.op, .int .u64 p.set.a, .int .u64 p.set.b, .int .u64 p.set.c, .int .u64 p.set.d, .int .i64 p.lo, .int .i64 p.hi, .int .i64 p.gr, .slice ad m cap]
-- def Z9 := [.int .i64 0, .int .u64 0, .int .u64 0, .int .u64 0, .int .u64 0, .int .i64 0, .int .i64 0, .int .i64 0, .slice none 0 0]
-- def R9 := [.int .i64 5, .int .u64 0, .int .u64 0, .int .u64 0, .int .u64 0, .int .i64 lo, .int .i64 hi, .int .i64 0, .slice (some ⟨w.heap.size + 1 + 1, 0, none⟩) 1 1]
-- def W3 := (((w.alloc (.cells #[.int .i64 p.op, .int .u64 p.set.a, .int .u64 p.set.b, .int .u64 p.set.c, .int .u64 p.set.d, .int .i64 p.lo, .int .i64 p.hi, .int .i64 p.gr, .slice ad m cap] 55)).alloc (.cells #[.int .i64 5, .int .u64 0, .int .u64 0, .int .u64 0, .int .u64 0, .int .i64 lo, .int .i64 hi, .int .i64 0, .slice (some ⟨w.heap.size + 1 + 1, 0, none⟩) 1 1] 55)).alloc (.cells #[.int .i64 p.op, .int .u64 p.set.a, .int .u64 p.set.b, .int .u64 p.set.c, .int .u64 p.set.d, .int .i64 p.lo, .int .i64 p.hi, .int .i64 p.gr, .slice ad m cap] 55))

theorem info_re9 : (Try.prog.info? 55).map (fun i => (i.zero, i.size, i.bytes)) = some (some (.agg #[.int .i64 0, .int .u64 0, .int .u64 0, .int .u64 0, .int .u64 0, .int .i64 0, .int .i64 0, .int .i64 0, .slice none 0 0]), 9, 88) := by kernel_rfl


-- def LL := (madeCells #[.int .i64 0, .int .u64 0, .int .u64 0, .int .u64 0, .int .u64 0, .int .i64 0, .int .i64 0, .int .i64 0, .slice none 0 0] (n * 9)).toList
end Go.Proofs.Ytnjcfggadeakpaa

/- The program's counted: what stands for a repetition. -/
namespace Go.Proofs.Ytnjcfggadeakpaa
open Go.RowKit
attribute [local go_sem] gives givesUpon

-- def BL := [.int .i64 p.op, .int .u64 p.set.a, .int .u64 p.set.b, .int .u64 p.set.c, .int .u64 p.set.d, .int .i64 p.lo, .int .i64 p.hi, .int .i64 p.gr, .slice ad m cap]
-- def Z9 := [.int .i64 0, .int .u64 0, .int .u64 0, .int .u64 0, .int .u64 0, .int .i64 0, .int .i64 0, .int .i64 0, .slice none 0 0]
-- def W2 := ((w.alloc (.cells #[.int .i64 p.op, .int .u64 p.set.a, .int .u64 p.set.b, .int .u64 p.set.c, .int .u64 p.set.d, .int .i64 p.lo, .int .i64 p.hi, .int .i64 p.gr, .slice ad m cap] 55)).alloc (.cells #[.int .i64 0, .int .u64 0, .int .u64 0, .int .u64 0, .int .u64 0, .int .i64 0, .int .i64 0, .int .i64 0, .slice none 0 0] 55))

/-- The blocks of what is built: those of S that were there, and those from n on. -/
def Sb (S : Nat → Prop) (w : World) (n : Nat) : Nat → Prop := fun k => (S k ∧ k < w.heap.size) ∨ n ≤ k

theorem counted_end {S : Nat → Prop} {w y : World} {T : Re} {a b c d e f g i j : Value} (hb : Below w.heap.size w y) (hr : Row y (w.heap.size + 1) [.int .i64 0, .int .u64 0, .int .u64 0, .int .u64 0, .int .u64 0, .int .i64 0, .int .i64 0, .int .i64 0, .slice none 0 0] 55) (hT : T.InS (Sb S w (w.heap.size + 2)) y [a, b, c, d, e, f, g, i, j]) :
    ∃ cs', Row (((((((((y.setCell ⟨w.heap.size + 1, 0, none⟩ a).setCell ⟨w.heap.size + 1, 1, none⟩ b).setCell ⟨w.heap.size + 1, 2, none⟩ c).setCell ⟨w.heap.size + 1, 3, none⟩ d).setCell ⟨w.heap.size + 1, 4, none⟩ e).setCell ⟨w.heap.size + 1, 5, none⟩ f).setCell ⟨w.heap.size + 1, 6, none⟩ g).setCell ⟨w.heap.size + 1, 7, none⟩ i).setCell ⟨w.heap.size + 1, 8, none⟩ j) (w.heap.size + 1) cs' 55 ∧ cs'.length = 9 ∧
      T.InS (fun k => S k ∨ w.heap.size ≤ k) (((((((((y.setCell ⟨w.heap.size + 1, 0, none⟩ a).setCell ⟨w.heap.size + 1, 1, none⟩ b).setCell ⟨w.heap.size + 1, 2, none⟩ c).setCell ⟨w.heap.size + 1, 3, none⟩ d).setCell ⟨w.heap.size + 1, 4, none⟩ e).setCell ⟨w.heap.size + 1, 5, none⟩ f).setCell ⟨w.heap.size + 1, 6, none⟩ g).setCell ⟨w.heap.size + 1, 7, none⟩ i).setCell ⟨w.heap.size + 1, 8, none⟩ j) cs' ∧
      Below w.heap.size w (((((((((y.setCell ⟨w.heap.size + 1, 0, none⟩ a).setCell ⟨w.heap.size + 1, 1, none⟩ b).setCell ⟨w.heap.size + 1, 2, none⟩ c).setCell ⟨w.heap.size + 1, 3, none⟩ d).setCell ⟨w.heap.size + 1, 4, none⟩ e).setCell ⟨w.heap.size + 1, 5, none⟩ f).setCell ⟨w.heap.size + 1, 6, none⟩ g).setCell ⟨w.heap.size + 1, 7, none⟩ i).setCell ⟨w.heap.size + 1, 8, none⟩ j) :=
  ⟨[a, b, c, d, e, f, g, i, j], hr.set9 _ _ _ _ _ _ _ _ _, rfl,
    ((hT.but (But.set9 (But.refl [w.heap.size + 1] y) (.inl (by simp)) _ _ _ _ _ _ _ _ _) (fun k hk => by simp; rintro rfl; rcases hk with hk | hk <;> omega)).mono fun k hk => by rcases hk with hk | hk; exact .inl hk.1; exact .inr (by omega)),
    below9 hb (by omega) _ _ _ _ _ _ _ _ _⟩
theorem Sb_mono {S : Nat → Prop} {w x : World} {n : Nat} (hn : n ≤ x.heap.size) : ∀ k, ((S k ∧ k < w.heap.size) ∨ x.heap.size ≤ k) → Sb S w n k := fun k hk => hk.elim .inl fun h => .inr (by omega)
theorem size_relen {cs : List Value} (h : cs.length = 9) : (Try.prog.info? 55).map (·.size) = some cs.length := by rw [h]; kernel_rfl

-- def RET := obtain ⟨cs', k1, k2, k3, k4⟩ := counted_end
end Go.Proofs.Ytnjcfggadeakpaa

/- The program's clone: a tree that shares nothing with another one. -/
namespace Go.Proofs.Ytnjcfggadeakpaa
open Go.RowKit
attribute [local go_sem] gives givesUpon

-- def BL := [.int .i64 p.op, .int .u64 p.set.a, .int .u64 p.set.b, .int .u64 p.set.c, .int .u64 p.set.d, .int .i64 p.lo, .int .i64 p.hi, .int .i64 p.gr, .slice ad xs.length cap]
-- def Z9 := [.int .i64 0, .int .u64 0, .int .u64 0, .int .u64 0, .int .u64 0, .int .i64 0, .int .i64 0, .int .i64 0, .slice none 0 0]
-- def R9 := [.int .i64 q.op, .int .u64 q.set.a, .int .u64 q.set.b, .int .u64 q.set.c, .int .u64 q.set.d, .int .i64 q.lo, .int .i64 q.hi, .int .i64 q.gr, .slice ad' m' cap'']

/-- What a loop that builds a list of trees keeps: the list so far is owned; the blocks B and B + 1 (the argument, the result) are known. -/
def BAt (w : World) (p : Pay) (sl : Value) (N : Nat) (v : Value) (L : List (Re × List Value)) (wr : World) : Prop :=
  OwnRes wr N (N ≤ ·) v L ∧ Row wr w.heap.size (p.cells sl) 55 ∧ Row wr (w.heap.size + 1) [.int .i64 0, .int .u64 0, .int .u64 0, .int .u64 0, .int .u64 0, .int .i64 0, .int .i64 0, .int .i64 0, .slice none 0 0] 55 ∧ Below w.heap.size w wr
theorem BAt.later {w : World} {p : Pay} {sl : Value} {N : Nat} {v : Value} {L : List (Re × List Value)} {wr x : World} (h : BAt w p sl N v L wr) (hb : Below wr.heap.size wr x) : BAt w p sl N v L x :=
  ⟨h.1.below hb, h.2.1.below hb h.2.1.lt, h.2.2.1.below hb h.2.2.1.lt, h.2.2.2.trans (hb.mono h.2.2.2.size)⟩
/-- After an append of one tree. -/
theorem BAt.push {w : World} {p : Pay} {sl : Value} {N : Nat} {a a' : Option Addr} {n n' c c' : Nat} {L : List (Re × List Value)} {t : Re} {cs : List Value} {x x' : World} (h : BAt w p sl N (.slice a n c) L x) (hN : w.heap.size + 2 ≤ N) (hn : n' = L.length + 1)
    (ho : x'.ownsRow N 55 9 (.slice a' n' c') n' (L.flatMap Prod.snd ++ cs)) (hg : x.grownBy x' (Value.slice a n c).ownBlock) (hnew : ∀ g, (Value.slice a' n' c').ownBlock = some g → (Value.slice a n c).ownBlock = some g ∨ x.heap.size ≤ g)
    (ht : t.InS (fun k => N ≤ k ∧ (Value.slice a n c).ownBlock ≠ some k) x cs) : BAt w p sl N (.slice a' n' c') (L ++ [(t, cs)]) x' := by
  have hv : ∀ g, (Value.slice a n c).ownBlock = some g → w.heap.size + 2 ≤ g := fun g hg => Nat.le_trans hN (h.1.lt g hg).1
  have hs := h.2.2.1.lt
  have hbl : ∀ j, j < w.heap.size + 2 → x'.heap[j]? = x.heap[j]? := fun j hj => grown_block hg hv j hj (by omega)
  exact ⟨h.1.push hn ho hg hnew ht, (hbl _ (by omega)).trans h.2.1, (hbl _ (by omega)).trans h.2.2.1, hg.os.trans h.2.2.2.os, hg.tape.trans h.2.2.2.tape, hg.output.trans h.2.2.2.output, Nat.le_trans h.2.2.2.size hg.size, fun j hj => (hbl j (by omega)).trans (h.2.2.2.block j hj)⟩

theorem info_re9' : (Try.prog.info? 55).map (fun i => (i.zero, i.size, i.bytes)) = some (some (.agg #[.int .i64 0, .int .u64 0, .int .u64 0, .int .u64 0, .int .u64 0, .int .i64 0, .int .i64 0, .int .i64 0, .slice none 0 0]), 9, 88) := info_re9

end Go.Proofs.Ytnjcfggadeakpaa

/- The program's expand: a tree without counted repetitions. -/
namespace Go.Proofs.Ytnjcfggadeakpaa
open Go.RowKit
attribute [local go_sem] gives givesUpon

-- def BL := [.int .i64 p.op, .int .u64 p.set.a, .int .u64 p.set.b, .int .u64 p.set.c, .int .u64 p.set.d, .int .i64 p.lo, .int .i64 p.hi, .int .i64 p.gr, .slice ad xs.length cap]
-- def Z9 := [.int .i64 0, .int .u64 0, .int .u64 0, .int .u64 0, .int .u64 0, .int .i64 0, .int .i64 0, .int .i64 0, .slice none 0 0]
-- def E9 := [.int .i64 p.op, .int .u64 p.set.a, .int .u64 p.set.b, .int .u64 p.set.c, .int .u64 p.set.d, .int .i64 p.lo, .int .i64 p.hi, .int .i64 p.gr, .slice none 0 0]
-- def R9 := [.int .i64 q.op, .int .u64 q.set.a, .int .u64 q.set.b, .int .u64 q.set.c, .int .u64 q.set.d, .int .i64 q.lo, .int .i64 q.hi, .int .i64 q.gr, .slice ad' m' cap'']

/-- What the loop keeps: as BAt, and the tree under way in the block behind. -/
def EAt (w : World) (p : Pay) (sl : Value) (v : Value) (L : List (Re × List Value)) (wr : World) : Prop :=
  BAt w p sl (w.heap.size + 3) v L wr ∧ Row wr (w.heap.size + 2) (p.cells v) 55
theorem EAt.later {w : World} {p : Pay} {sl : Value} {v : Value} {L : List (Re × List Value)} {wr x : World} (h : EAt w p sl v L wr) (hb : Below wr.heap.size wr x) : EAt w p sl v L x := ⟨h.1.later hb, h.2.below hb h.2.lt⟩
theorem Re.one_kid {p : Pay} {xs : List Re} (h : (Re.mk p xs).typed = true) (hop : p.op = 5) : ∃ x, xs = [x] := by
  have hl : xs.length = 1 := by
    rw [Re.typed] at h
    simp only [Bool.and_eq_true] at h
    have h1 := h.1
    unfold Pay.shaped at h1
    simp [hop] at h1
    omega
  match xs, hl with
  | [x], _ => exact ⟨x, rfl⟩

end Go.Proofs.Ytnjcfggadeakpaa

/- The program's weigh: the number of nodes of the expanded tree. -/
namespace Go.Proofs.Ytnjcfggadeakpaa
open Go.RowKit
attribute [local go_sem] gives givesUpon

-- def BL := [.int .i64 p.op, .int .u64 p.set.a, .int .u64 p.set.b, .int .u64 p.set.c, .int .u64 p.set.d, .int .i64 p.lo, .int .i64 p.hi, .int .i64 p.gr, .slice ad xs.length cap]

end Go.Proofs.Ytnjcfggadeakpaa

/- The program's Expand: the tree without counted repetitions, or the error. -/
namespace Go.Proofs.Ytnjcfggadeakpaa
open Go.RowKit
attribute [local go_sem] gives givesUpon

-- def BL := [.int .i64 p.op, .int .u64 p.set.a, .int .u64 p.set.b, .int .u64 p.set.c, .int .u64 p.set.d, .int .i64 p.lo, .int .i64 p.hi, .int .i64 p.gr, .slice ad xs.length cap]
-- def Z9 := [.int .i64 0, .int .u64 0, .int .u64 0, .int .u64 0, .int .u64 0, .int .i64 0, .int .i64 0, .int .i64 0, .slice none 0 0]
-- def W2 := ((w.alloc (.cells #[.int .i64 p.op, .int .u64 p.set.a, .int .u64 p.set.b, .int .u64 p.set.c, .int .u64 p.set.d, .int .i64 p.lo, .int .i64 p.hi, .int .i64 p.gr, .slice ad xs.length cap] 55)).alloc (.cells #[.int .i64 0, .int .u64 0, .int .u64 0, .int .u64 0, .int .u64 0, .int .i64 0, .int .i64 0, .int .i64 0, .slice none 0 0] 55))

theorem zero_in (w : World) : (Re.mk (Pay.of 0) []).In w [.int .i64 0, .int .u64 0, .int .u64 0, .int .u64 0, .int .u64 0, .int .i64 0, .int .i64 0, .int .i64 0, .slice none 0 0] := ((OwnRes.nil w 0 (0 ≤ ·)).node (fun k hk => hk) (Pay.of 0) (Pay.of_wf ⟨by decide, by decide⟩)).self
theorem Re.expandR_err {t : Re} (h : ¬ t.err = 0) : t.expandR = (.mk (Pay.of 0) [], t.err) := by unfold Re.expandR; rw [if_pos h]
theorem Re.expandR_much {t : Re} (h : t.err = 0) (h2 : 4096 < t.weigh) : t.expandR = (.mk (Pay.of 0) [], 3) := by unfold Re.expandR; rw [if_neg (fun k => k h), if_pos h2]
theorem Re.expandR_ok {t : Re} (h : t.err = 0) (h2 : ¬ 4096 < t.weigh) : t.expandR = (t.expand, 0) := by unfold Re.expandR; rw [if_neg (fun k => k h), if_neg h2]
theorem Re.expandR_size {t : Re} : t.expandR.1.size ≤ 4096 := by
  unfold Re.expandR
  split
  · simp [Re.size_mk, Re.sizes, Re.counts]
  · rename_i h
    split
    · simp [Re.size_mk, Re.sizes, Re.counts]
    · rename_i h2
      have h0 : t.err = 0 := by simpa using h
      have he := Re.err_zero h0
      have := Re.expand_size t (Re.ranged_okr t 0 he.2.2.1) he.1 (by omega)
      simp only []
      omega

end Go.Proofs.Ytnjcfggadeakpaa

/- Trees that Check accepts, and their expansions, have arguments as the code expects them. What Compile returns. No program. -/
namespace Go.Proofs.Ytnjcfggadeakpaa
open Go.RowKit

theorem Pay.shaped_fine {p : Pay} {n : Nat} (h : p.shaped n = true) : (p.op = 4 → 1 ≤ n) ∧ (p.op = 5 → n = 1) ∧ (p.op = 6 → n = 1) ∧ (p.op = 3 ∨ p.op = 4 ∨ p.op = 5 ∨ p.op = 6 ∨ n = 0) := by
  unfold Pay.shaped at h
  by_cases h1 : p.op = 1 ∨ p.op = 7 ∨ p.op = 8
  · rw [if_pos h1] at h; simp at h; refine ⟨by omega, by omega, by omega, by omega⟩
  rw [if_neg h1] at h
  by_cases h2 : p.op = 2
  · rw [if_pos h2] at h; simp at h; refine ⟨by omega, by omega, by omega, by omega⟩
  rw [if_neg h2] at h
  by_cases h3 : p.op = 3 ∨ p.op = 4
  · rw [if_pos h3] at h; simp at h; refine ⟨by omega, by omega, by omega, by omega⟩
  rw [if_neg h3] at h
  by_cases h5 : p.op = 5
  · rw [if_pos h5] at h; simp at h; refine ⟨by omega, by omega, by omega, by omega⟩
  rw [if_neg h5] at h
  by_cases h6 : p.op = 6
  · rw [if_pos h6] at h; simp at h; refine ⟨by omega, by omega, by omega, by omega⟩
  rw [if_neg h6] at h
  by_cases h9 : p.op = 9
  · rw [if_pos h9] at h; simp at h; refine ⟨by omega, by omega, by omega, by omega⟩
  rw [if_neg h9] at h
  cases h
mutual
theorem Re.typed_fine : ∀ t : Re, t.typed = true → t.fine
  | .mk p xs, h => by
    rw [Re.typed, Bool.and_eq_true] at h
    obtain ⟨h1, h2, h3, h4⟩ := Pay.shaped_fine h.1
    rw [Re.fine]
    refine ⟨h1, h2, ⟨h3, ?_⟩, Re.typeds_fines xs h.2⟩
    rcases h4 with h | h | h | h | h
    · exact .inl h
    · exact .inr (.inl h)
    · exact .inr (.inr (.inl h))
    · exact .inr (.inr (.inr (.inl h)))
    · exact .inr (.inr (.inr (.inr (List.length_eq_zero_iff.1 h))))
theorem Re.typeds_fines : ∀ xs : List Re, Re.typeds xs = true → Re.fines xs
  | [], _ => by rw [Re.fines]; trivial
  | t :: ts, h => by
    rw [Re.typeds, Bool.and_eq_true] at h
    rw [Re.fines]
    exact ⟨Re.typed_fine t h.1, Re.typeds_fines ts h.2⟩
end
theorem Re.fines_of : ∀ (xs : List Re), (∀ a, a ∈ xs → a.fine) → Re.fines xs
  | [], _ => by rw [Re.fines]; trivial
  | t :: ts, h => by rw [Re.fines]; exact ⟨h t (by simp), Re.fines_of ts fun a ha => h a (by simp [ha])⟩
theorem Re.rept_fine {x : Re} (h : x.fine) (lo hi : Int) : (x.rept lo hi).fine := by
  unfold Re.rept
  rw [Re.fine]
  exact ⟨fun e => absurd e (show (5 : Int) ≠ 4 by decide), fun _ => rfl, ⟨fun e => absurd e (show (5 : Int) ≠ 6 by decide), .inr (.inr (.inl rfl))⟩, Re.fines_of _ fun a ha => by rw [List.mem_singleton.1 ha]; exact h⟩
theorem Re.cat_fine {xs : List Re} (h : ∀ a, a ∈ xs → a.fine) : (Re.mk (Pay.of 3) xs).fine := by
  rw [Re.fine]
  exact ⟨fun e => absurd e (show (3 : Int) ≠ 4 by decide), fun e => absurd e (show (3 : Int) ≠ 5 by decide), ⟨fun e => absurd e (show (3 : Int) ≠ 6 by decide), .inl rfl⟩, Re.fines_of xs h⟩
theorem Re.none_fine {p : Pay} (h4 : p.op ≠ 4) (h5 : p.op ≠ 5) (h6 : p.op ≠ 6) : (Re.mk p []).fine := by
  rw [Re.fine, Re.fines]
  exact ⟨fun e => absurd e h4, fun e => absurd e h5, ⟨fun e => absurd e h6, .inr (.inr (.inr (.inr rfl)))⟩, trivial⟩
theorem Re.counted_fine {x : Re} (h : x.fine) (lo hi : Int) : (x.counted lo hi).fine := by
  unfold Re.counted
  split
  · exact Re.rept_fine h _ _
  split
  · exact Re.none_fine (show (1 : Int) ≠ 4 by decide) (show (1 : Int) ≠ 5 by decide) (show (1 : Int) ≠ 6 by decide)
  split
  · exact h
  split
  · exact Re.cat_fine fun a ha => by rw [List.eq_of_mem_replicate ha]; exact h
  split
  · refine Re.cat_fine fun a ha => ?_
    rcases List.mem_append.1 ha with ha | ha
    · rw [List.eq_of_mem_replicate ha]; exact h
    · rw [List.mem_singleton.1 ha]; exact Re.rept_fine h _ _
  · refine Re.cat_fine fun a ha => ?_
    rcases List.mem_append.1 ha with ha | ha
    · rw [List.eq_of_mem_replicate ha]; exact h
    · rw [List.eq_of_mem_replicate ha]; exact Re.rept_fine h _ _
theorem Re.expand_fine (t : Re) : t.fine → t.expand.fine := by
  induction t using Re.ind with
  | h p xs ih =>
    intro hf
    rw [Re.fine] at hf
    obtain ⟨h4, h5, ⟨h6, hn⟩, hs⟩ := hf
    rw [Re.expand, Re.expands_map]
    by_cases o5 : p.op = 5
    · by_cases hh : p.op = 5 ∧ p.hi = 0
      · rw [if_pos hh]
        exact Re.none_fine (show (1 : Int) ≠ 4 by decide) (show (1 : Int) ≠ 5 by decide) (show (1 : Int) ≠ 6 by decide)
      · rw [if_neg hh, if_pos o5]
        obtain ⟨x0, rfl⟩ := List.length_eq_one_iff.1 (h5 o5)
        exact Re.counted_fine (ih x0 (by simp) (Re.fines_mem _ hs x0 (by simp))) _ _
    · rw [if_neg (fun h => o5 h.1), if_neg o5, Re.fine]
      refine ⟨fun e => by rw [List.length_map]; exact h4 e, fun e => absurd e o5, ⟨fun e => by rw [List.length_map]; exact h6 e, ?_⟩, Re.fines_of _ fun a ha => ?_⟩
      · rcases hn with h | h | h | h | h
        · exact .inl h
        · exact .inr (.inl h)
        · exact .inr (.inr (.inl h))
        · exact .inr (.inr (.inr (.inl h)))
        · exact .inr (.inr (.inr (.inr (by rw [h]; rfl))))
      · obtain ⟨b, hb, rfl⟩ := List.mem_map.1 ha
        exact ih b hb (Re.fines_mem _ hs b hb)
theorem Re.expandR_fine {t : Re} (h : t.err = 0) : t.expandR.1.fine := by
  unfold Re.expandR
  rw [if_neg (fun k => k h)]
  split
  · exact Re.none_fine (show (0 : Int) ≠ 4 by decide) (show (0 : Int) ≠ 5 by decide) (show (0 : Int) ≠ 6 by decide)
  · exact Re.expand_fine t (Re.typed_fine t (Re.err_zero h).1)

/-- The instructions, and the error, that Compile returns. -/
def Re.compiled (t : Re) : List Inst × Int :=
  if t.err ≠ 0 then ([], t.err) else if 0 < t.backs then ([], 7) else if t.expandR.2 ≠ 0 then ([], t.expandR.2) else if 4096 < t.expandR.1.csize + 1 then ([], 3) else (t.expandR.1.gen 0 ++ [Inst.of 6], 0)
/-- What Compile leaves. -/
def CPost (t : Re) (lines : Bool) (w : World) (e : Ending) (w' : World) : Prop :=
  ∃ (a : Option Addr) (n c : Nat), e = .returned (.tuple #[.agg #[.slice a n c, .bool (lines && decide (t.compiled.2 = 0))], .int .i64 t.compiled.2]) ∧ OwnI w' w.heap.size (.slice a n c) t.compiled.1 ∧ Below w.heap.size w w'
theorem Re.compiled_err {t : Re} (h : ¬ t.err = 0) : t.compiled = ([], t.err) := by unfold Re.compiled; rw [if_pos h]
theorem Re.compiled_back {t : Re} (h : t.err = 0) (h2 : 0 < t.backs) : t.compiled = ([], 7) := by unfold Re.compiled; rw [if_neg (fun k => k h), if_pos h2]
theorem Re.compiled_much {t : Re} (h : t.err = 0) (h2 : ¬ 0 < t.backs) (h3 : ¬ t.expandR.2 = 0) : t.compiled = ([], t.expandR.2) := by unfold Re.compiled; rw [if_neg (fun k => k h), if_neg h2, if_pos h3]
theorem Re.compiled_long {t : Re} (h : t.err = 0) (h2 : ¬ 0 < t.backs) (h3 : t.expandR.2 = 0) (h4 : 4096 < t.expandR.1.csize + 1) : t.compiled = ([], 3) := by unfold Re.compiled; rw [if_neg (fun k => k h), if_neg h2, if_neg (fun k => k h3), if_pos h4]
theorem Re.compiled_ok {t : Re} (h : t.err = 0) (h2 : ¬ 0 < t.backs) (h3 : t.expandR.2 = 0) (h4 : ¬ 4096 < t.expandR.1.csize + 1) : t.compiled = (t.expandR.1.gen 0 ++ [Inst.of 6], 0) := by unfold Re.compiled; rw [if_neg (fun k => k h), if_neg h2, if_neg (fun k => k h3), if_neg h4]
theorem OwnI.weak {w : World} {b b' : Nat} {v : Value} {L : List Inst} (h : OwnI w b v L) (hb : b' ≤ b) : OwnI w b' v L := by
  refine ⟨h.1, ?_⟩
  rcases h.2 with hn | ⟨g, cap, cur, rfl, hb1, rest⟩
  · exact .inl hn
  · exact .inr ⟨g, cap, cur, rfl, Nat.le_trans hb hb1, rest⟩
theorem Row.set2 {w : World} {B : Nat} {a b : Value} {T : TypeId} (h : Row w B [a, b] T) (a' b' : Value) : Row ((w.setCell ⟨B, 0, none⟩ a').setCell ⟨B, 1, none⟩ b') B [a', b'] T := (h.set 0 _).set 1 _
theorem below2 {n : Nat} {w x : World} {B : Nat} (h : Below n w x) (hB : n ≤ B) (a' b' : Value) : Below n w ((x.setCell ⟨B, 0, none⟩ a').setCell ⟨B, 1, none⟩ b') := (h.setCell hB _).setCell hB _
theorem OwnI.set2 {w : World} {base B : Nat} {v : Value} {L : List Inst} (h : OwnI w base v L) (hB : B < base) (a' b' : Value) : OwnI ((w.setCell ⟨B, 0, none⟩ a').setCell ⟨B, 1, none⟩ b') base v L :=
  h.but (((But.refl [B] w).setCell (p := ⟨B, 0, none⟩) (.inl (by simp)) a').setCell (p := ⟨B, 1, none⟩) (.inl (by simp)) b') hB
theorem size_prog (a b : Value) : (Try.prog.info? 24).map (·.size) = some [a, b].length := by show _ = some 2; kernel_rfl
end Go.Proofs.Ytnjcfggadeakpaa

/- A set is equal to itself. -/
namespace Go.Proofs.Ytnjcfggadeakpaa
open Go.RowKit

theorem eq_self (s : Cs) (x : World) : (Op.equalIn 10000 41 (.agg #[.int .u64 s.a, .int .u64 s.b, .int .u64 s.c, .int .u64 s.d]) (.agg #[.int .u64 s.a, .int .u64 s.b, .int .u64 s.c, .int .u64 s.d])).run Try.prog x = .ok true x := by
  rw [run_eqIn_cs]; simp
end Go.Proofs.Ytnjcfggadeakpaa

/- The reference's SameRe: of one tree at two places it says true. -/
namespace Go.Proofs.Ytnjcfggadeakpaa
open Go.RowKit
attribute [local go_sem] gives givesUpon

theorem gives_load_agg {P : Program} {o : Oper} {a : Act} {w : World} {K : Value → World → Prop} (ty : TypeId) (x : Operand) (ho : o.op = .load ty x)
    (b f : Nat) (hx : a.eval x = .pointer (some ⟨b, f, none⟩)) (cs : List Value) (d : TypeDesc) (hc : CellsAt w b f cs)
    (hu : P.underlying ty = some d) (hd : (match d with | .struct _ | .array _ _ => true | _ => false) = true) (hi : (P.info? ty).map (·.size) = some cs.length)
    (h : K (.agg cs.toArray) w) : gives P o a w K := by
  have hl : (loadCells ⟨b, f, none⟩ cs.length).run P w = .ok cs.toArray w := run_loadCells_list (P := P) w ⟨b, f, none⟩ cs (fun j v hj => by rw [Addr.add_lit]; exact hc j v hj)
  have hrun : (loadVar ty ⟨b, f, none⟩).run P w = .ok (.agg cs.toArray) w := by
    cases hq : P.info? ty with
    | none => simp [hq] at hi
    | some i =>
      have hs : i.size = cs.length := by simpa [hq] using hi
      have hagg : (isAgg ty).run P w = .ok true w := by
        unfold isAgg
        rw [Sem.run_bind, run_underlying hu w]
        cases d <;> simp_all
      simp [loadVar, Sem.run_bind, hagg, sizeOf, typeInfo, hq, hs, hl]
  unfold gives execOp
  simp only [ho, hx, Instr.loadAt, Instr.sureAddr, Sem.run_bind, Sem.run_pure, Result.andThen_ok, hrun]
  exact h

end Go.Proofs.Ytnjcfggadeakpaa
