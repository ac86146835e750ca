/- Two things that own blocks, apart in one world. -/
import Derived.Test.YtnncbbfbnccnbaaStore
namespace Go.Proofs.Ytnncbbfbnccnbaa
open Go.RowKit

/-- A kind of thing that lies in blocks of its own. -/
structure Kind (σ : Type) where
  At : World → Nat → Nat → σ → Prop
  own : σ → Nat → List Nat
  blocks : ∀ {w : World} {B base : Nat} {s : σ}, At w B base s → ∀ k, k ∈ own s B → base ≤ k ∧ k < w.heap.size
  kept : ∀ {w w' : World} {B base : Nat} {s : σ}, At w B base s → (∀ k, k ∈ own s B → w'.heap[k]? = w.heap[k]?) → At w' B base s
structure Moved {σ : Type} (K : Kind σ) (base B : Nat) (s s' : σ) (w w' : World) : Prop where
  at' : K.At w' B base s'
  but : But (K.own s B) w w'
  own : ∀ k, k ∈ K.own s' B → k ∈ K.own s B ∨ w.heap.size ≤ k
structure Pair {σ τ : Type} (K : Kind σ) (L : Kind τ) (w0 : World) (A B : Nat) (s : σ) (u : τ) (w : World) : Prop where
  fst : K.At w A w0.heap.size s
  snd : L.At w B w0.heap.size u
  apart : ∀ k, k ∈ K.own s A → k ∈ L.own u B → False
  below : Below w0.heap.size w0 w
section
variable {σ τ : Type} {K : Kind σ} {L : Kind τ} {w0 w w' : World} {A B : Nat} {s s' : σ} {u u' : τ}
theorem Pair.swap (h : Pair K L w0 A B s u w) : Pair L K w0 B A u s w := ⟨h.snd, h.fst, fun k h1 h2 => h.apart k h2 h1, h.below⟩
theorem Pair.more (h : Pair K L w0 A B s u w) (hb : Below w.heap.size w w') : Pair K L w0 A B s u w' :=
  ⟨K.kept h.fst fun k hk => hb.block k (K.blocks h.fst k hk).2, L.kept h.snd fun k hk => hb.block k (L.blocks h.snd k hk).2, h.apart, h.below.trans (hb.mono h.below.size)⟩
theorem Pair.step (h : Pair K L w0 A B s u w) (m : Moved K w0.heap.size A s s' w w') : Pair K L w0 A B s' u w' := by
  have hu := L.blocks h.snd
  refine ⟨m.at', L.kept h.snd fun k hk => m.but.block k (hu k hk).2 fun hs => h.apart k hs hk, fun k h1 h2 => ?_, h.below.trans (m.but.below h.below.size fun k hk => (K.blocks h.fst k hk).1)⟩
  rcases m.own k h1 with h3 | h3
  · exact h.apart k h3 h2
  · have := (hu k h2).2; omega
theorem Pair.step2 (h : Pair K L w0 A B s u w) (m : Moved L w0.heap.size B u u' w w') : Pair K L w0 A B s u' w' := (h.swap.step m).swap
end
theorem Kind.lower {σ : Type} (K : Kind σ) {w w' : World} {B base : Nat} {s : σ} (h : K.At w B base s) (hb : Below w.heap.size w w') : K.At w' B base s := K.kept h fun k hk => hb.block k (K.blocks h k hk).2
/-- The stores. -/
def stK : Kind St where
  At w B base s := s.At w B base
  own s B := s.own B
  blocks h := h.blocks
  kept h := h.kept
theorem Step.moved {base B : Nat} {s s' : St} {w w' : World} (h : Step base B s s' w w') : Moved stK base B s s' w w' := ⟨h.at', h.but, h.own⟩
theorem St.At.lower {w : World} {B base base' : Nat} {s : St} (h : s.At w B base) (hb : base' ≤ base) : s.At w B base' :=
  ⟨h.row, h.map, fun f hf => ⟨(h.ents f hf).row, (h.ents f hf).txt, Nat.le_trans hb (h.ents f hf).lo, fun g hg => Nat.le_trans hb ((h.ents f hf).tlo g hg)⟩, h.apart, ⟨Nat.le_trans hb h.lo.1, Nat.le_trans hb h.lo.2⟩⟩
end Go.Proofs.Ytnncbbfbnccnbaa
