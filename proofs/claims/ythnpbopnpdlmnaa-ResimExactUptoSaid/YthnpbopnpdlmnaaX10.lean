/- A repetition's node; a list of one tree, n times. -/
import Derived.Test.YthnpbopnpdlmnaaX07
import Derived.Test.YthnpbopnpdlmnaaX04
import Derived.Test.YthnpbopnpdlmnaaX08
import Derived.Test.YthnpbopnpdlmnaaX09
import Derived.Test.YthnpbopnpdlmnaaX02
import Derived.Test.YthnpbopnpdlmnaaX03
import Derived.ChangeKeysEq
namespace Go.Proofs.Ythnpbopnpdlmnaa
open Go.RowKit
attribute [local go_sem] gives givesUpon


theorem info_re9 : (Try.prog.info? 28).map (fun i => (i.zero, i.size, i.bytes)) = some (some (.agg #[.int .i64 0, .int .u64 0, .int .u64 0, .int .u64 0, .int .u64 0, .int .i64 0, .int .i64 0, .int .i64 0, .slice none 0 0]), 9, 88) := by kernel_rfl


end Go.Proofs.Ythnpbopnpdlmnaa

/- The program's counted: what stands for a repetition. -/
namespace Go.Proofs.Ythnpbopnpdlmnaa
open Go.RowKit
attribute [local go_sem] gives givesUpon


def Sb (S : Nat → Prop) (w : World) (n : Nat) : Nat → Prop := fun k => (S k ∧ k < w.heap.size) ∨ n ≤ k

theorem counted_end {S : Nat → Prop} {w y : World} {T : Re} {a b c d e f g i j : Value} (hb : Below w.heap.size w y) (hr : Row y (w.heap.size + 1) [.int .i64 0, .int .u64 0, .int .u64 0, .int .u64 0, .int .u64 0, .int .i64 0, .int .i64 0, .int .i64 0, .slice none 0 0] 28) (hT : T.InS (Sb S w (w.heap.size + 2)) y [a, b, c, d, e, f, g, i, j]) :
    ∃ cs', Row (((((((((y.setCell ⟨w.heap.size + 1, 0, none⟩ a).setCell ⟨w.heap.size + 1, 1, none⟩ b).setCell ⟨w.heap.size + 1, 2, none⟩ c).setCell ⟨w.heap.size + 1, 3, none⟩ d).setCell ⟨w.heap.size + 1, 4, none⟩ e).setCell ⟨w.heap.size + 1, 5, none⟩ f).setCell ⟨w.heap.size + 1, 6, none⟩ g).setCell ⟨w.heap.size + 1, 7, none⟩ i).setCell ⟨w.heap.size + 1, 8, none⟩ j) (w.heap.size + 1) cs' 28 ∧ cs'.length = 9 ∧
      T.InS (fun k => S k ∨ w.heap.size ≤ k) (((((((((y.setCell ⟨w.heap.size + 1, 0, none⟩ a).setCell ⟨w.heap.size + 1, 1, none⟩ b).setCell ⟨w.heap.size + 1, 2, none⟩ c).setCell ⟨w.heap.size + 1, 3, none⟩ d).setCell ⟨w.heap.size + 1, 4, none⟩ e).setCell ⟨w.heap.size + 1, 5, none⟩ f).setCell ⟨w.heap.size + 1, 6, none⟩ g).setCell ⟨w.heap.size + 1, 7, none⟩ i).setCell ⟨w.heap.size + 1, 8, none⟩ j) cs' ∧
      Below w.heap.size w (((((((((y.setCell ⟨w.heap.size + 1, 0, none⟩ a).setCell ⟨w.heap.size + 1, 1, none⟩ b).setCell ⟨w.heap.size + 1, 2, none⟩ c).setCell ⟨w.heap.size + 1, 3, none⟩ d).setCell ⟨w.heap.size + 1, 4, none⟩ e).setCell ⟨w.heap.size + 1, 5, none⟩ f).setCell ⟨w.heap.size + 1, 6, none⟩ g).setCell ⟨w.heap.size + 1, 7, none⟩ i).setCell ⟨w.heap.size + 1, 8, none⟩ j) :=
  ⟨[a, b, c, d, e, f, g, i, j], hr.set9 _ _ _ _ _ _ _ _ _, rfl,
    ((hT.but (But.set9 (But.refl [w.heap.size + 1] y) (.inl (by simp)) _ _ _ _ _ _ _ _ _) (fun k hk => by simp; rintro rfl; rcases hk with hk | hk <;> omega)).mono fun k hk => by rcases hk with hk | hk; exact .inl hk.1; exact .inr (by omega)),
    below9 hb (by omega) _ _ _ _ _ _ _ _ _⟩
theorem size_relen {cs : List Value} (h : cs.length = 9) : (Try.prog.info? 28).map (·.size) = some cs.length := by rw [h]; kernel_rfl

end Go.Proofs.Ythnpbopnpdlmnaa

/- The program's clone: a tree that shares nothing with another one. -/
namespace Go.Proofs.Ythnpbopnpdlmnaa
open Go.RowKit
attribute [local go_sem] gives givesUpon


def BAt (w : World) (p : Pay) (sl : Value) (N : Nat) (v : Value) (L : List (Re × List Value)) (wr : World) : Prop :=
  OwnRes wr N (N ≤ ·) v L ∧ Row wr w.heap.size (p.cells sl) 28 ∧ Row wr (w.heap.size + 1) [.int .i64 0, .int .u64 0, .int .u64 0, .int .u64 0, .int .u64 0, .int .i64 0, .int .i64 0, .int .i64 0, .slice none 0 0] 28 ∧ Below w.heap.size w wr
theorem BAt.later {w : World} {p : Pay} {sl : Value} {N : Nat} {v : Value} {L : List (Re × List Value)} {wr x : World} (h : BAt w p sl N v L wr) (hb : Below wr.heap.size wr x) : BAt w p sl N v L x :=
  ⟨h.1.below hb, h.2.1.below hb h.2.1.lt, h.2.2.1.below hb h.2.2.1.lt, h.2.2.2.trans (hb.mono h.2.2.2.size)⟩
theorem BAt.push {w : World} {p : Pay} {sl : Value} {N : Nat} {a a' : Option Addr} {n n' c c' : Nat} {L : List (Re × List Value)} {t : Re} {cs : List Value} {x x' : World} (h : BAt w p sl N (.slice a n c) L x) (hN : w.heap.size + 2 ≤ N) (hn : n' = L.length + 1)
    (ho : x'.ownsRow N 28 9 (.slice a' n' c') n' (L.flatMap Prod.snd ++ cs)) (hg : x.grownBy x' (Value.slice a n c).ownBlock) (hnew : ∀ g, (Value.slice a' n' c').ownBlock = some g → (Value.slice a n c).ownBlock = some g ∨ x.heap.size ≤ g)
    (ht : t.InS (fun k => N ≤ k ∧ (Value.slice a n c).ownBlock ≠ some k) x cs) : BAt w p sl N (.slice a' n' c') (L ++ [(t, cs)]) x' := by
  have hv : ∀ g, (Value.slice a n c).ownBlock = some g → w.heap.size + 2 ≤ g := fun g hg => Nat.le_trans hN (h.1.lt g hg).1
  have hs := h.2.2.1.lt
  have hbl : ∀ j, j < w.heap.size + 2 → x'.heap[j]? = x.heap[j]? := fun j hj => grown_block hg hv j hj (by omega)
  exact ⟨h.1.push hn ho hg hnew ht, (hbl _ (by omega)).trans h.2.1, (hbl _ (by omega)).trans h.2.2.1, hg.os.trans h.2.2.2.os, hg.tape.trans h.2.2.2.tape, hg.output.trans h.2.2.2.output, Nat.le_trans h.2.2.2.size hg.size, fun j hj => (hbl j (by omega)).trans (h.2.2.2.block j hj)⟩

theorem info_re9' : (Try.prog.info? 28).map (fun i => (i.zero, i.size, i.bytes)) = some (some (.agg #[.int .i64 0, .int .u64 0, .int .u64 0, .int .u64 0, .int .u64 0, .int .i64 0, .int .i64 0, .int .i64 0, .slice none 0 0]), 9, 88) := info_re9

end Go.Proofs.Ythnpbopnpdlmnaa

/- The program's expand: a tree without counted repetitions. -/
namespace Go.Proofs.Ythnpbopnpdlmnaa
open Go.RowKit
attribute [local go_sem] gives givesUpon


def EAt (w : World) (p : Pay) (sl : Value) (v : Value) (L : List (Re × List Value)) (wr : World) : Prop :=
  BAt w p sl (w.heap.size + 3) v L wr ∧ Row wr (w.heap.size + 2) (p.cells v) 28
theorem EAt.later {w : World} {p : Pay} {sl : Value} {v : Value} {L : List (Re × List Value)} {wr x : World} (h : EAt w p sl v L wr) (hb : Below wr.heap.size wr x) : EAt w p sl v L x := ⟨h.1.later hb, h.2.below hb h.2.lt⟩
theorem Re.one_kid {p : Pay} {xs : List Re} (h : (Re.mk p xs).typed = true) (hop : p.op = 5) : ∃ x, xs = [x] := by
  have hl : xs.length = 1 := by
    rw [Re.typed] at h
    simp only [Bool.and_eq_true] at h
    have h1 := h.1
    unfold Pay.shaped at h1
    simp [hop] at h1
    omega
  match xs, hl with
  | [x], _ => exact ⟨x, rfl⟩

end Go.Proofs.Ythnpbopnpdlmnaa

/- The program's weigh: the number of nodes of the expanded tree. -/
namespace Go.Proofs.Ythnpbopnpdlmnaa
open Go.RowKit
attribute [local go_sem] gives givesUpon


end Go.Proofs.Ythnpbopnpdlmnaa

/- The program's Expand: the tree without counted repetitions, or the error. -/
namespace Go.Proofs.Ythnpbopnpdlmnaa
open Go.RowKit
attribute [local go_sem] gives givesUpon


theorem zero_in (w : World) : (Re.mk (Pay.of 0) []).In w [.int .i64 0, .int .u64 0, .int .u64 0, .int .u64 0, .int .u64 0, .int .i64 0, .int .i64 0, .int .i64 0, .slice none 0 0] := ((OwnRes.nil w 0 (0 ≤ ·)).node (fun k hk => hk) (Pay.of 0) (Pay.of_wf ⟨by decide, by decide⟩)).self
theorem Re.expandR_err {t : Re} (h : ¬ t.err = 0) : t.expandR = (.mk (Pay.of 0) [], t.err) := by unfold Re.expandR; rw [if_pos h]
theorem Re.expandR_much {t : Re} (h : t.err = 0) (h2 : 4096 < t.weigh) : t.expandR = (.mk (Pay.of 0) [], 3) := by unfold Re.expandR; rw [if_neg (fun k => k h), if_pos h2]
theorem Re.expandR_ok {t : Re} (h : t.err = 0) (h2 : ¬ 4096 < t.weigh) : t.expandR = (t.expand, 0) := by unfold Re.expandR; rw [if_neg (fun k => k h), if_neg h2]
theorem Re.expandR_size {t : Re} : t.expandR.1.size ≤ 4096 := by
  unfold Re.expandR
  split
  · simp [Re.size_mk, Re.sizes, Re.counts]
  · rename_i h
    split
    · simp [Re.size_mk, Re.sizes, Re.counts]
    · rename_i h2
      have h0 : t.err = 0 := by simpa using h
      have he := Re.err_zero h0
      have := Re.expand_size t (Re.ranged_okr t 0 he.2.2.1) he.1 (by omega)
      simp only []
      omega

end Go.Proofs.Ythnpbopnpdlmnaa

/- Trees that Check accepts, and their expansions, have arguments as the code expects them. What Compile returns. No program. -/
namespace Go.Proofs.Ythnpbopnpdlmnaa
open Go.RowKit

theorem Pay.shaped_fine {p : Pay} {n : Nat} (h : p.shaped n = true) : (p.op = 4 → 1 ≤ n) ∧ (p.op = 5 → n = 1) ∧ (p.op = 6 → n = 1) ∧ (p.op = 3 ∨ p.op = 4 ∨ p.op = 5 ∨ p.op = 6 ∨ n = 0) := by
  unfold Pay.shaped at h
  by_cases h1 : p.op = 1 ∨ p.op = 7 ∨ p.op = 8
  · rw [if_pos h1] at h; simp at h; refine ⟨by omega, by omega, by omega, by omega⟩
  rw [if_neg h1] at h
  by_cases h2 : p.op = 2
  · rw [if_pos h2] at h; simp at h; refine ⟨by omega, by omega, by omega, by omega⟩
  rw [if_neg h2] at h
  by_cases h3 : p.op = 3 ∨ p.op = 4
  · rw [if_pos h3] at h; simp at h; refine ⟨by omega, by omega, by omega, by omega⟩
  rw [if_neg h3] at h
  by_cases h5 : p.op = 5
  · rw [if_pos h5] at h; simp at h; refine ⟨by omega, by omega, by omega, by omega⟩
  rw [if_neg h5] at h
  by_cases h6 : p.op = 6
  · rw [if_pos h6] at h; simp at h; refine ⟨by omega, by omega, by omega, by omega⟩
  rw [if_neg h6] at h
  by_cases h9 : p.op = 9
  · rw [if_pos h9] at h; simp at h; refine ⟨by omega, by omega, by omega, by omega⟩
  rw [if_neg h9] at h
  cases h
mutual
theorem Re.typed_fine : ∀ t : Re, t.typed = true → t.fine
  | .mk p xs, h => by
    rw [Re.typed, Bool.and_eq_true] at h
    obtain ⟨h1, h2, h3, h4⟩ := Pay.shaped_fine h.1
    rw [Re.fine]
    refine ⟨h1, h2, ⟨h3, ?_⟩, Re.typeds_fines xs h.2⟩
    rcases h4 with h | h | h | h | h
    · exact .inl h
    · exact .inr (.inl h)
    · exact .inr (.inr (.inl h))
    · exact .inr (.inr (.inr (.inl h)))
    · exact .inr (.inr (.inr (.inr (List.length_eq_zero_iff.1 h))))
theorem Re.typeds_fines : ∀ xs : List Re, Re.typeds xs = true → Re.fines xs
  | [], _ => by rw [Re.fines]; trivial
  | t :: ts, h => by
    rw [Re.typeds, Bool.and_eq_true] at h
    rw [Re.fines]
    exact ⟨Re.typed_fine t h.1, Re.typeds_fines ts h.2⟩
end
theorem Re.fines_of : ∀ (xs : List Re), (∀ a, a ∈ xs → a.fine) → Re.fines xs
  | [], _ => by rw [Re.fines]; trivial
  | t :: ts, h => by rw [Re.fines]; exact ⟨h t (by simp), Re.fines_of ts fun a ha => h a (by simp [ha])⟩
theorem Re.rept_fine {x : Re} (h : x.fine) (lo hi : Int) : (x.rept lo hi).fine := by
  unfold Re.rept
  rw [Re.fine]
  exact ⟨fun e => absurd e (show (5 : Int) ≠ 4 by decide), fun _ => rfl, ⟨fun e => absurd e (show (5 : Int) ≠ 6 by decide), .inr (.inr (.inl rfl))⟩, Re.fines_of _ fun a ha => by rw [List.mem_singleton.1 ha]; exact h⟩
theorem Re.cat_fine {xs : List Re} (h : ∀ a, a ∈ xs → a.fine) : (Re.mk (Pay.of 3) xs).fine := by
  rw [Re.fine]
  exact ⟨fun e => absurd e (show (3 : Int) ≠ 4 by decide), fun e => absurd e (show (3 : Int) ≠ 5 by decide), ⟨fun e => absurd e (show (3 : Int) ≠ 6 by decide), .inl rfl⟩, Re.fines_of xs h⟩
theorem Re.none_fine {p : Pay} (h4 : p.op ≠ 4) (h5 : p.op ≠ 5) (h6 : p.op ≠ 6) : (Re.mk p []).fine := by
  rw [Re.fine, Re.fines]
  exact ⟨fun e => absurd e h4, fun e => absurd e h5, ⟨fun e => absurd e h6, .inr (.inr (.inr (.inr rfl)))⟩, trivial⟩
theorem Re.counted_fine {x : Re} (h : x.fine) (lo hi : Int) : (x.counted lo hi).fine := by
  unfold Re.counted
  split
  · exact Re.rept_fine h _ _
  split
  · exact Re.none_fine (show (1 : Int) ≠ 4 by decide) (show (1 : Int) ≠ 5 by decide) (show (1 : Int) ≠ 6 by decide)
  split
  · exact h
  split
  · exact Re.cat_fine fun a ha => by rw [List.eq_of_mem_replicate ha]; exact h
  split
  · refine Re.cat_fine fun a ha => ?_
    rcases List.mem_append.1 ha with ha | ha
    · rw [List.eq_of_mem_replicate ha]; exact h
    · rw [List.mem_singleton.1 ha]; exact Re.rept_fine h _ _
  · refine Re.cat_fine fun a ha => ?_
    rcases List.mem_append.1 ha with ha | ha
    · rw [List.eq_of_mem_replicate ha]; exact h
    · rw [List.eq_of_mem_replicate ha]; exact Re.rept_fine h _ _
theorem Re.expand_fine (t : Re) : t.fine → t.expand.fine := by
  induction t using Re.ind with
  | h p xs ih =>
    intro hf
    rw [Re.fine] at hf
    obtain ⟨h4, h5, ⟨h6, hn⟩, hs⟩ := hf
    rw [Re.expand, Re.expands_map]
    by_cases o5 : p.op = 5
    · by_cases hh : p.op = 5 ∧ p.hi = 0
      · rw [if_pos hh]
        exact Re.none_fine (show (1 : Int) ≠ 4 by decide) (show (1 : Int) ≠ 5 by decide) (show (1 : Int) ≠ 6 by decide)
      · rw [if_neg hh, if_pos o5]
        obtain ⟨x0, rfl⟩ := List.length_eq_one_iff.1 (h5 o5)
        exact Re.counted_fine (ih x0 (by simp) (Re.fines_mem _ hs x0 (by simp))) _ _
    · rw [if_neg (fun h => o5 h.1), if_neg o5, Re.fine]
      refine ⟨fun e => by rw [List.length_map]; exact h4 e, fun e => absurd e o5, ⟨fun e => by rw [List.length_map]; exact h6 e, ?_⟩, Re.fines_of _ fun a ha => ?_⟩
      · rcases hn with h | h | h | h | h
        · exact .inl h
        · exact .inr (.inl h)
        · exact .inr (.inr (.inl h))
        · exact .inr (.inr (.inr (.inl h)))
        · exact .inr (.inr (.inr (.inr (by rw [h]; rfl))))
      · obtain ⟨b, hb, rfl⟩ := List.mem_map.1 ha
        exact ih b hb (Re.fines_mem _ hs b hb)
theorem Re.expandR_fine {t : Re} (h : t.err = 0) : t.expandR.1.fine := by
  unfold Re.expandR
  rw [if_neg (fun k => k h)]
  split
  · exact Re.none_fine (show (0 : Int) ≠ 4 by decide) (show (0 : Int) ≠ 5 by decide) (show (0 : Int) ≠ 6 by decide)
  · exact Re.expand_fine t (Re.typed_fine t (Re.err_zero h).1)

def Re.compiled (t : Re) : List Inst × Int :=
  if t.err ≠ 0 then ([], t.err) else if 0 < t.backs then ([], 7) else if t.expandR.2 ≠ 0 then ([], t.expandR.2) else if 4096 < t.expandR.1.csize + 1 then ([], 3) else (t.expandR.1.gen 0 ++ [Inst.of 6], 0)
def CPost (t : Re) (lines : Bool) (w : World) (e : Ending) (w' : World) : Prop :=
  ∃ (a : Option Addr) (n c : Nat), e = .returned (.tuple #[.agg #[.slice a n c, .bool (lines && decide (t.compiled.2 = 0))], .int .i64 t.compiled.2]) ∧ OwnI w' w.heap.size (.slice a n c) t.compiled.1 ∧ Below w.heap.size w w'
theorem Re.compiled_err {t : Re} (h : ¬ t.err = 0) : t.compiled = ([], t.err) := by unfold Re.compiled; rw [if_pos h]
theorem Re.compiled_back {t : Re} (h : t.err = 0) (h2 : 0 < t.backs) : t.compiled = ([], 7) := by unfold Re.compiled; rw [if_neg (fun k => k h), if_pos h2]
theorem Re.compiled_much {t : Re} (h : t.err = 0) (h2 : ¬ 0 < t.backs) (h3 : ¬ t.expandR.2 = 0) : t.compiled = ([], t.expandR.2) := by unfold Re.compiled; rw [if_neg (fun k => k h), if_neg h2, if_pos h3]
theorem Re.compiled_long {t : Re} (h : t.err = 0) (h2 : ¬ 0 < t.backs) (h3 : t.expandR.2 = 0) (h4 : 4096 < t.expandR.1.csize + 1) : t.compiled = ([], 3) := by unfold Re.compiled; rw [if_neg (fun k => k h), if_neg h2, if_neg (fun k => k h3), if_pos h4]
theorem Re.compiled_ok {t : Re} (h : t.err = 0) (h2 : ¬ 0 < t.backs) (h3 : t.expandR.2 = 0) (h4 : ¬ 4096 < t.expandR.1.csize + 1) : t.compiled = (t.expandR.1.gen 0 ++ [Inst.of 6], 0) := by unfold Re.compiled; rw [if_neg (fun k => k h), if_neg h2, if_neg (fun k => k h3), if_neg h4]
theorem OwnI.weak {w : World} {b b' : Nat} {v : Value} {L : List Inst} (h : OwnI w b v L) (hb : b' ≤ b) : OwnI w b' v L := by
  refine ⟨h.1, ?_⟩
  rcases h.2 with hn | ⟨g, cap, cur, rfl, hb1, rest⟩
  · exact .inl hn
  · exact .inr ⟨g, cap, cur, rfl, Nat.le_trans hb hb1, rest⟩
theorem Row.set2 {w : World} {B : Nat} {a b : Value} {T : TypeId} (h : Row w B [a, b] T) (a' b' : Value) : Row ((w.setCell ⟨B, 0, none⟩ a').setCell ⟨B, 1, none⟩ b') B [a', b'] T := (h.set 0 _).set 1 _
theorem below2 {n : Nat} {w x : World} {B : Nat} (h : Below n w x) (hB : n ≤ B) (a' b' : Value) : Below n w ((x.setCell ⟨B, 0, none⟩ a').setCell ⟨B, 1, none⟩ b') := (h.setCell hB _).setCell hB _
theorem OwnI.set2 {w : World} {base B : Nat} {v : Value} {L : List Inst} (h : OwnI w base v L) (hB : B < base) (a' b' : Value) : OwnI ((w.setCell ⟨B, 0, none⟩ a').setCell ⟨B, 1, none⟩ b') base v L :=
  h.but (((But.refl [B] w).setCell (p := ⟨B, 0, none⟩) (.inl (by simp)) a').setCell (p := ⟨B, 1, none⟩) (.inl (by simp)) b') hB
theorem size_prog (a b : Value) : (Try.prog.info? 59).map (·.size) = some [a, b].length := by show _ = some 2; kernel_rfl
end Go.Proofs.Ythnpbopnpdlmnaa

/- A set is equal to itself. -/
namespace Go.Proofs.Ythnpbopnpdlmnaa
open Go.RowKit

end Go.Proofs.Ythnpbopnpdlmnaa

/- The reference's SameRe: of one tree at two places it says true. -/
namespace Go.Proofs.Ythnpbopnpdlmnaa
open Go.RowKit
attribute [local go_sem] gives givesUpon

theorem gives_load_agg {P : Program} {o : Oper} {a : Act} {w : World} {K : Value → World → Prop} (ty : TypeId) (x : Operand) (ho : o.op = .load ty x)
    (b f : Nat) (hx : a.eval x = .pointer (some ⟨b, f, none⟩)) (cs : List Value) (d : TypeDesc) (hc : CellsAt w b f cs)
    (hu : P.underlying ty = some d) (hd : (match d with | .struct _ | .array _ _ => true | _ => false) = true) (hi : (P.info? ty).map (·.size) = some cs.length)
    (h : K (.agg cs.toArray) w) : gives P o a w K := by
  have hl : (loadCells ⟨b, f, none⟩ cs.length).run P w = .ok cs.toArray w := run_loadCells_list (P := P) w ⟨b, f, none⟩ cs (fun j v hj => by rw [Addr.add_lit]; exact hc j v hj)
  have hrun : (loadVar ty ⟨b, f, none⟩).run P w = .ok (.agg cs.toArray) w := by
    cases hq : P.info? ty with
    | none => simp [hq] at hi
    | some i =>
      have hs : i.size = cs.length := by simpa [hq] using hi
      have hagg : (isAgg ty).run P w = .ok true w := by
        unfold isAgg
        rw [Sem.run_bind, run_underlying hu w]
        cases d <;> simp_all
      simp [loadVar, Sem.run_bind, hagg, sizeOf, typeInfo, hq, hs, hl]
  unfold gives execOp
  simp only [ho, hx, Instr.loadAt, Instr.sureAddr, Sem.run_bind, Sem.run_pure, Result.andThen_ok, hrun]
  exact h

end Go.Proofs.Ythnpbopnpdlmnaa

/- Equality of instructions; the reference's SameInsts at equal lists. -/
namespace Go.Proofs.Ythnpbopnpdlmnaa
open Go.RowKit
attribute [local go_sem] gives givesUpon

end Go.Proofs.Ythnpbopnpdlmnaa

/- The program's Valid, at lists that are valid. -/
namespace Go.Proofs.Ythnpbopnpdlmnaa
open Go.RowKit
attribute [local go_sem] gives givesUpon

def Inst.right (n k : Nat) (i : Inst) : Prop := ((i.op = 1 ∨ i.op = 4 ∨ i.op = 5) ∧ k + 1 < n) ∨ (i.op = 2 ∧ (0 ≤ i.x ∧ i.x < n) ∧ (0 ≤ i.y ∧ i.y < n)) ∨ (i.op = 3 ∧ (0 ≤ i.x ∧ i.x < n)) ∨ i.op = 6
def rightAll (L : List Inst) : Prop := (1 ≤ L.length ∧ L.length ≤ 4096) ∧ ∀ k (h : k < L.length), L[k].right L.length k

end Go.Proofs.Ythnpbopnpdlmnaa

/- The instructions of a tree are right: the plain law. No program. -/
namespace Go.Proofs.Ythnpbopnpdlmnaa
open Go.RowKit

def Inst.okTo (hi : Nat) (i : Inst) : Prop := (i.op = 1 ∨ i.op = 4 ∨ i.op = 5) ∨ (i.op = 2 ∧ (0 ≤ i.x ∧ i.x ≤ hi) ∧ (0 ≤ i.y ∧ i.y ≤ hi)) ∨ (i.op = 3 ∧ (0 ≤ i.x ∧ i.x ≤ hi))
theorem Inst.okTo.mono {a b : Nat} {i : Inst} (h : i.okTo a) (hab : a ≤ b) : i.okTo b := by
  unfold Inst.okTo at *
  rcases h with h | ⟨h, h1, h2⟩ | ⟨h, h1⟩
  · exact .inl h
  · exact .inr (.inl ⟨h, by omega, by omega⟩)
  · exact .inr (.inr ⟨h, by omega⟩)
theorem isplit_ok {hi : Nat} {x y : Int} (h1 : 0 ≤ x ∧ x ≤ hi) (h2 : 0 ≤ y ∧ y ≤ hi) : (isplit x y).okTo hi := .inr (.inl ⟨rfl, h1, h2⟩)
theorem ijump_ok {hi : Nat} {x : Int} (h1 : 0 ≤ x ∧ x ≤ hi) : (ijump x).okTo hi := .inr (.inr ⟨rfl, h1⟩)
mutual
theorem Re.gen_ok : ∀ (t : Re) (n : Nat) (i : Inst), i ∈ t.gen n → i.okTo (n + t.csize)
  | .mk p xs, n, i, h => by
    have h1 := Re.gens_ok xs n i
    have h2 := Re.gens_ok xs (n + 1) i
    have h3 := Re.galt_ok xs n (n + Re.asize xs) i (Nat.le_refl _)
    rw [Re.gen] at h
    rw [Re.csize]
    by_cases o2 : p.op = 2
    · rw [if_pos o2] at h; rw [List.mem_singleton.1 h]; exact .inl (.inl rfl)
    rw [if_neg o2] at h
    by_cases o7 : p.op = 7
    · rw [if_pos o7] at h; rw [List.mem_singleton.1 h]; exact .inl (.inr (.inl rfl))
    rw [if_neg o7] at h
    by_cases o8 : p.op = 8
    · rw [if_pos o8] at h; rw [List.mem_singleton.1 h]; exact .inl (.inr (.inr rfl))
    rw [if_neg o8] at h
    rw [if_neg (show ¬ (p.op = 2 ∨ p.op = 7 ∨ p.op = 8) by omega)]
    by_cases o4 : p.op = 4
    · rw [if_pos o4] at h ⊢; exact h3 h
    rw [if_neg o4] at h ⊢
    by_cases o5 : p.op = 5
    · rw [if_pos o5] at h ⊢
      by_cases hl : p.lo = 1
      · rw [if_pos hl] at h ⊢
        rcases List.mem_append.1 h with h | h
        · exact (h1 h).mono (by omega)
        · rw [List.mem_singleton.1 h]; exact isplit_ok (by omega) (by omega)
      · rw [if_neg hl] at h ⊢
        rcases List.mem_cons.1 h with h | h
        · rw [h]; exact isplit_ok (by omega) (by split <;> omega)
        rcases List.mem_append.1 h with h | h
        · exact (h2 h).mono (by omega)
        · by_cases hh : p.hi < 0
          · rw [if_pos hh] at h; rw [List.mem_singleton.1 h]; exact ijump_ok (by omega)
          · rw [if_neg hh] at h; cases h
    · rw [if_neg o5] at h ⊢; exact h1 h
theorem Re.gens_ok : ∀ (xs : List Re) (n : Nat) (i : Inst), i ∈ Re.gens xs n → i.okTo (n + Re.csizes xs)
  | [], n, i, h => by rw [Re.gens] at h; cases h
  | t :: ts, n, i, h => by
    rw [Re.gens] at h
    rw [Re.csizes]
    rcases List.mem_append.1 h with h | h
    · exact (Re.gen_ok t n i h).mono (by omega)
    · exact (Re.gens_ok ts _ i h).mono (by omega)
theorem Re.galt_ok : ∀ (xs : List Re) (n fin : Nat) (i : Inst), n + Re.asize xs ≤ fin → i ∈ Re.galt xs n fin → i.okTo fin
  | [], n, fin, i, _, h => by rw [Re.galt] at h; cases h
  | t :: ts, n, fin, i, hf, h => by
    have h1 := Re.gen_ok t n i
    have h2 := Re.gen_ok t (n + 1) i
    have h3 := Re.galt_ok ts (n + t.csize + 2) fin i
    rw [Re.galt] at h
    rw [Re.asize] at hf
    by_cases he : ts.isEmpty = true
    · rw [if_pos he] at h hf
      exact (h1 h).mono (by omega)
    · rw [if_neg he] at h hf
      rcases List.mem_cons.1 h with h | h
      · rw [h]; exact isplit_ok (by omega) (by omega)
      rcases List.mem_append.1 h with h | h
      · rcases List.mem_append.1 h with h | h
        · exact (h2 h).mono (by omega)
        · rw [List.mem_singleton.1 h]; exact ijump_ok (by omega)
      · exact h3 (by omega) h
end
theorem Re.compiled_zero {t : Re} (h : t.compiled.2 = 0) : t.err = 0 ∧ t.expandR.2 = 0 ∧ t.compiled.1 = t.expandR.1.gen 0 ++ [Inst.of 6] ∧ t.expandR.1.csize + 1 ≤ 4096 ∧ ¬ 0 < t.backs := by
  by_cases h1 : t.err = 0
  · by_cases h2 : 0 < t.backs
    · rw [Re.compiled_back h1 h2] at h; cases h
    · by_cases h3 : t.expandR.2 = 0
      · by_cases h4 : 4096 < t.expandR.1.csize + 1
        · rw [Re.compiled_long h1 h2 h3 h4] at h; cases h
        · rw [Re.compiled_ok h1 h2 h3 h4]; exact ⟨h1, h3, rfl, by omega, h2⟩
      · rw [Re.compiled_much h1 h2 h3] at h; exact absurd h h3
  · rw [Re.compiled_err h1] at h; exact absurd h h1
theorem Re.compiled_none {t : Re} (h : t.compiled.2 ≠ 0) : t.compiled.1 = [] := by
  by_cases h1 : t.err = 0
  · by_cases h2 : 0 < t.backs
    · rw [Re.compiled_back h1 h2]
    · by_cases h3 : t.expandR.2 = 0
      · by_cases h4 : 4096 < t.expandR.1.csize + 1
        · rw [Re.compiled_long h1 h2 h3 h4]
        · rw [Re.compiled_ok h1 h2 h3 h4] at h; exact absurd rfl h
      · rw [Re.compiled_much h1 h2 h3]
  · rw [Re.compiled_err h1]
theorem Re.compiled_len {t : Re} (h : t.compiled.2 = 0) : t.compiled.1.length = t.expandR.1.csize + 1 := by
  rw [(Re.compiled_zero h).2.2.1, List.length_append, Re.gen_len]; rfl
theorem Re.compiled_max (t : Re) : t.compiled.1.length ≤ 4096 := by
  by_cases h : t.compiled.2 = 0
  · rw [Re.compiled_len h]; exact (Re.compiled_zero h).2.2.2.1
  · rw [Re.compiled_none h]; simp
theorem Re.compiled_at {t : Re} (h : t.compiled.2 = 0) (k : Nat) (hk : k < t.compiled.1.length) : (k + 1 < t.compiled.1.length ∧ t.compiled.1[k].okTo t.expandR.1.csize) ∨ (k + 1 = t.compiled.1.length ∧ t.compiled.1[k] = Inst.of 6) := by
  have hl := Re.compiled_len h
  obtain ⟨h1, h2, h3, h4, _⟩ := Re.compiled_zero h
  have hg := Re.gen_len t.expandR.1 0
  by_cases hk2 : k < t.expandR.1.csize
  · refine .inl ⟨by omega, ?_⟩
    have he : t.compiled.1[k] = (t.expandR.1.gen 0)[k] := by simp only [h3]; rw [List.getElem_append_left (by omega)]
    rw [he]
    have := Re.gen_ok t.expandR.1 0 _ (List.getElem_mem (by omega : k < (t.expandR.1.gen 0).length))
    simpa using this
  · refine .inr ⟨by omega, ?_⟩
    simp only [h3]
    rw [List.getElem_append_right (by omega)]
    simp
theorem Re.compiled_right {t : Re} (h : t.compiled.2 = 0) : rightAll t.compiled.1 := by
  have hl := Re.compiled_len h
  have h4 := (Re.compiled_zero h).2.2.2.1
  refine ⟨⟨by omega, by omega⟩, fun k hk => ?_⟩
  rcases Re.compiled_at h k hk with ⟨h1, h2⟩ | ⟨h1, h2⟩
  · rcases h2 with h2 | ⟨h2, h3, h5⟩ | ⟨h2, h3⟩
    · exact .inl ⟨h2, h1⟩
    · exact .inr (.inl ⟨h2, by omega, by omega⟩)
    · exact .inr (.inr (.inl ⟨h2, by omega⟩))
  · rw [h2]; exact .inr (.inr (.inr rfl))
theorem Re.compiled_match {t : Re} (h : t.compiled.2 = 0) (k : Nat) (hk : k < t.compiled.1.length) : (t.compiled.1[k].op = 6) ↔ (k + 1 = t.compiled.1.length) := by
  rcases Re.compiled_at h k hk with ⟨h1, h2⟩ | ⟨h1, h2⟩
  · refine ⟨fun e => ?_, fun e => by omega⟩
    rcases h2 with h2 | ⟨h2, h3, h5⟩ | ⟨h2, h3⟩ <;> omega
  · rw [h2]; exact ⟨fun _ => h1, fun _ => rfl⟩
end Go.Proofs.Ythnpbopnpdlmnaa

/- The simulation of a program, plainly: what is reached without a byte, and after bytes; a depth-first search over marks. No program. -/
namespace Go.Proofs.Ythnpbopnpdlmnaa
open Go.RowKit

structure Sim where
  L : List Inst
  lines : Bool
  s : List UInt8
namespace Sim
def byte (m : Sim) (i : Nat) : Nat := (m.s.getD i 0).toNat
def begins (m : Sim) (i : Nat) : Bool := i == 0 || (m.lines && (m.byte (i - 1) == 10))
def ends (m : Sim) (i : Nat) : Bool := i == m.s.length || (m.lines && (m.byte i == 10))
def inst (m : Sim) (k : Nat) : Inst := m.L.getD k (Inst.of 0)
def eps (m : Sim) (i k : Nat) : List Nat :=
  if (m.inst k).op = 3 then [(m.inst k).x.toNat] else if (m.inst k).op = 2 then [(m.inst k).y.toNat, (m.inst k).x.toNat] else
  if (m.inst k).op = 4 then (if m.begins i = true then [k + 1] else []) else if (m.inst k).op = 5 then (if m.ends i = true then [k + 1] else []) else []
def leaf (m : Sim) (k : Nat) : Prop := (m.inst k).op = 1 ∨ (m.inst k).op = 6
inductive Reach (m : Sim) (i : Nat) (S : Nat → Prop) : Nat → Prop
  | base {k : Nat} : S k → Reach m i S k
  | step {k j : Nat} : Reach m i S k → j ∈ m.eps i k → Reach m i S j
def takes (m : Sim) (i k : Nat) : Prop := (m.inst k).op = 1 ∧ (m.inst k).set.has (m.byte i) = true
def R (m : Sim) (a : Nat) : Nat → Nat → Prop
  | 0 => m.Reach a (· = 0)
  | n + 1 => m.Reach (a + (n + 1)) (fun k => ∃ j, m.R a n j ∧ m.takes (a + n) j ∧ k = j + 1)
theorem Reach.least {m : Sim} {i : Nat} {S V : Nat → Prop} (h0 : ∀ k, S k → V k) (h1 : ∀ k, V k → ∀ j, j ∈ m.eps i k → V j) {k : Nat} (h : m.Reach i S k) : V k := by
  induction h with
  | base h => exact h0 _ h
  | step _ hj ih => exact h1 _ ih _ hj
theorem Reach.mono {m : Sim} {i : Nat} {S T : Nat → Prop} (h0 : ∀ k, S k → T k) {k : Nat} (h : m.Reach i S k) : m.Reach i T k := by
  induction h with
  | base h => exact .base (h0 _ h)
  | step _ hj ih => exact .step ih hj
theorem Reach.split {m : Sim} {i : Nat} {S : Nat → Prop} {k : Nat} (h : m.Reach i S k) : ∃ x, S x ∧ m.Reach i (· = x) k := by
  induction h with
  | base h => exact ⟨_, h, .base rfl⟩
  | step _ hj ih =>
    obtain ⟨x, hx, hr⟩ := ih
    exact ⟨x, hx, .step hr hj⟩
theorem Reach.join {m : Sim} {i : Nat} {S : Nat → Prop} {x k : Nat} (hx : S x) (h : m.Reach i (· = x) k) : m.Reach i S k := h.mono fun _ e => by subst e; exact hx
theorem inst_eq {m : Sim} {k : Nat} (h : k < m.L.length) : m.inst k = m.L[k] := by
  unfold inst
  rw [List.getD_eq_getElem?_getD, List.getElem?_eq_getElem h]
  rfl
theorem right_of {m : Sim} (hR : rightAll m.L) {k : Nat} (h : k < m.L.length) : (m.inst k).right m.L.length k := by
  rw [inst_eq h]
  exact hR.2 k h
theorem eps_lt {m : Sim} (hR : rightAll m.L) {i k j : Nat} (h : k < m.L.length) (hj : j ∈ m.eps i k) : j < m.L.length := by
  have hr := right_of hR h
  unfold eps at hj
  unfold Inst.right at hr
  split at hj
  · have : j = (m.inst k).x.toNat := by simpa using hj
    omega
  split at hj
  · have : j = (m.inst k).y.toNat ∨ j = (m.inst k).x.toNat := by simpa using hj
    omega
  split at hj
  · split at hj
    · have : j = k + 1 := by simpa using hj
      omega
    · cases hj
  split at hj
  · split at hj
    · have : j = k + 1 := by simpa using hj
      omega
    · cases hj
  · cases hj
theorem Reach.lt {m : Sim} (hR : rightAll m.L) {i : Nat} {S : Nat → Prop} (h0 : ∀ k, S k → k < m.L.length) {k : Nat} (h : m.Reach i S k) : k < m.L.length :=
  Reach.least (V := fun k => k < m.L.length) h0 (fun _ hk _ hj => eps_lt hR hk hj) h
theorem takes_lt {m : Sim} (hR : rightAll m.L) {i k : Nat} (h : k < m.L.length) (ht : m.takes i k) : k + 1 < m.L.length := by
  have hr := right_of hR h
  have := ht.1
  unfold Inst.right at hr
  omega
theorem R_lt {m : Sim} (hR : rightAll m.L) (a : Nat) : ∀ (n k : Nat), m.R a n k → k < m.L.length
  | 0, k, h => Reach.lt hR (fun k hk => by have := hR.1.1; subst hk; omega) h
  | n + 1, k, h => Reach.lt hR (fun k ⟨j, hj, ht, e⟩ => by subst e; exact takes_lt hR (R_lt hR a n j hj) ht) h
structure Dfs (m : Sim) (i x : Nat) (V0 V : Nat → Prop) (St acc : List Nat) : Prop where
  old : ∀ k, V0 k → V k
  src : ∀ k, V k → V0 k ∨ m.Reach i (· = x) k
  stk : ∀ k, k ∈ St → m.Reach i (· = x) k
  nxt : ∀ k, V k → ∀ j, j ∈ m.eps i k → V j ∨ j ∈ St
  beg : V x ∨ x ∈ St
  nd : acc.Nodup
  mem : ∀ k, k ∈ acc ↔ m.leaf k ∧ V k ∧ ¬ V0 k
theorem Dfs.first {m : Sim} {i x : Nat} {V0 : Nat → Prop} (hc : ∀ k, V0 k → ∀ j, j ∈ m.eps i k → V0 j) : Dfs m i x V0 V0 [x] [] := by
  refine ⟨fun _ h => h, fun _ h => .inl h, fun k hk => ?_, fun k hk j hj => .inl (hc k hk j hj), .inr (by simp), List.nodup_nil, fun k => ?_⟩
  · obtain rfl : k = x := by simpa using hk
    exact .base rfl
  · constructor
    · intro h; cases h
    · intro h; exact absurd h.2.1 h.2.2
theorem Dfs.skip {m : Sim} {i x k : Nat} {V0 V : Nat → Prop} {St acc : List Nat} (h : Dfs m i x V0 V (St ++ [k]) acc) (hk : V k) : Dfs m i x V0 V St acc := by
  refine ⟨h.old, h.src, fun j hj => h.stk j (by simp [hj]), fun a ha j hj => ?_, ?_, h.nd, h.mem⟩
  · rcases h.nxt a ha j hj with h1 | h1
    · exact .inl h1
    · rcases List.mem_append.1 h1 with h1 | h1
      · exact .inr h1
      · obtain rfl : j = k := by simpa using h1
        exact .inl hk
  · rcases h.beg with h1 | h1
    · exact .inl h1
    · rcases List.mem_append.1 h1 with h1 | h1
      · exact .inr h1
      · obtain rfl : x = k := by simpa using h1
        exact .inl hk
theorem Dfs.visit {m : Sim} {i x k : Nat} {V0 V : Nat → Prop} {St acc : List Nat} (h : Dfs m i x V0 V (St ++ [k]) acc) (hk : ¬ V k) (hl : ¬ m.leaf k) : Dfs m i x V0 (fun j => j = k ∨ V j) (St ++ m.eps i k) acc := by
  have hrk : m.Reach i (· = x) k := h.stk k (by simp)
  refine ⟨fun j hj => .inr (h.old j hj), fun j hj => ?_, fun j hj => ?_, fun a ha j hj => ?_, ?_, h.nd, fun j => ?_⟩
  · rcases hj with rfl | hj
    · exact .inr hrk
    · exact h.src j hj
  · rcases List.mem_append.1 hj with h1 | h1
    · exact h.stk j (by simp [h1])
    · exact .step hrk h1
  · rcases ha with rfl | ha
    · exact .inr (by simp [hj])
    · rcases h.nxt a ha j hj with h1 | h1
      · exact .inl (.inr h1)
      · rcases List.mem_append.1 h1 with h1 | h1
        · exact .inr (by simp [h1])
        · exact .inl (.inl (by simpa using h1))
  · rcases h.beg with h1 | h1
    · exact .inl (.inr h1)
    · rcases List.mem_append.1 h1 with h1 | h1
      · exact .inr (by simp [h1])
      · exact .inl (.inl (by simpa using h1))
  · rw [h.mem]
    constructor
    · rintro ⟨h1, h2, h3⟩
      exact ⟨h1, .inr h2, h3⟩
    · rintro ⟨h1, h2 | h2, h3⟩
      · subst h2; exact absurd h1 hl
      · exact ⟨h1, h2, h3⟩
theorem leaf_eps {m : Sim} {i k : Nat} (h : m.leaf k) : m.eps i k = [] := by
  unfold leaf at h
  unfold eps
  rw [if_neg (by omega), if_neg (by omega), if_neg (by omega), if_neg (by omega)]
theorem Dfs.take {m : Sim} {i x k : Nat} {V0 V : Nat → Prop} {St acc : List Nat} (h : Dfs m i x V0 V (St ++ [k]) acc) (hk : ¬ V k) (hl : m.leaf k) : Dfs m i x V0 (fun j => j = k ∨ V j) St (acc ++ [k]) := by
  have hrk : m.Reach i (· = x) k := h.stk k (by simp)
  have hk0 : ¬ V0 k := fun h0 => hk (h.old k h0)
  refine ⟨fun j hj => .inr (h.old j hj), fun j hj => ?_, fun j hj => h.stk j (by simp [hj]), fun a ha j hj => ?_, ?_, ?_, fun j => ?_⟩
  · rcases hj with rfl | hj
    · exact .inr hrk
    · exact h.src j hj
  · rcases ha with rfl | ha
    · rw [leaf_eps hl] at hj; cases hj
    · rcases h.nxt a ha j hj with h1 | h1
      · exact .inl (.inr h1)
      · rcases List.mem_append.1 h1 with h1 | h1
        · exact .inr h1
        · exact .inl (.inl (by simpa using h1))
  · rcases h.beg with h1 | h1
    · exact .inl (.inr h1)
    · rcases List.mem_append.1 h1 with h1 | h1
      · exact .inr h1
      · exact .inl (.inl (by simpa using h1))
  · rw [List.nodup_append]
    refine ⟨h.nd, by simp, fun a ha b hb => ?_⟩
    obtain rfl : b = k := by simpa using hb
    rintro rfl
    exact hk ((h.mem a).1 ha).2.1
  · rw [List.mem_append, h.mem]
    constructor
    · rintro (⟨h1, h2, h3⟩ | h1)
      · exact ⟨h1, .inr h2, h3⟩
      · obtain rfl : j = k := by simpa using h1
        exact ⟨hl, .inl rfl, hk0⟩
    · rintro ⟨h1, h2 | h2, h3⟩
      · exact .inr (by simp [h2])
      · exact .inl ⟨h1, h2, h3⟩
theorem Dfs.last {m : Sim} {i x : Nat} {V0 V : Nat → Prop} {acc : List Nat} (h : Dfs m i x V0 V [] acc) : (∀ k, V k ↔ V0 k ∨ m.Reach i (· = x) k) ∧ (∀ k, V k → ∀ j, j ∈ m.eps i k → V j) := by
  have hcl : ∀ k, V k → ∀ j, j ∈ m.eps i k → V j := fun k hk j hj => by
    rcases h.nxt k hk j hj with h1 | h1
    · exact h1
    · cases h1
  refine ⟨fun k => ⟨h.src k, ?_⟩, hcl⟩
  rintro (h1 | h1)
  · exact h.old k h1
  · refine Reach.least (V := V) (fun j hj => ?_) hcl h1
    subst hj
    rcases h.beg with h2 | h2
    · exact h2
    · cases h2
end Sim
def upd1 (f : Nat → Int) (k : Nat) (v : Int) : Nat → Int := fun j => if j = k then v else f j
def unv (mk : Nat → Int) (st : Int) : Nat → Nat
  | 0 => 0
  | n + 1 => unv mk st n + (if mk n = st then 0 else 1)
theorem unv_same (mk : Nat → Int) (st : Int) (k : Nat) : ∀ n, n ≤ k → unv (upd1 mk k st) st n = unv mk st n
  | 0, _ => rfl
  | n + 1, h => by
    unfold unv
    rw [unv_same mk st k n (by omega)]
    have e : upd1 mk k st n = mk n := by unfold upd1; rw [if_neg (by omega)]
    rw [e]
theorem unv_less (mk : Nat → Int) (st : Int) (k : Nat) (hk : mk k ≠ st) : ∀ n, k < n → unv (upd1 mk k st) st n + 1 = unv mk st n
  | n + 1, h => by
    unfold unv
    rcases Nat.lt_or_ge k n with h1 | h1
    · have := unv_less mk st k hk n h1
      have e : upd1 mk k st n = mk n := by unfold upd1; rw [if_neg (by omega)]
      rw [e]; omega
    · obtain rfl : k = n := by omega
      rw [unv_same mk st k k (Nat.le_refl _)]
      have e : upd1 mk k st k = st := by unfold upd1; rw [if_pos rfl]
      rw [e, if_pos rfl, if_neg hk]
end Go.Proofs.Ythnpbopnpdlmnaa
