/- The reference's Check of a tree: the error of the tree. -/
import Derived.Test.YtjjhdddlbgdkeaaDoorG13
import Derived.Test.YtjjhdddlbgdkeaaDoorG19
import Derived.Test.YtjjhdddlbgdkeaaDoorG14
import Derived.Test.YtjjhdddlbgdkeaaDoorG04
namespace Go.Proofs.YtjjhdddlbgdkeaaDoor
open Go.RowKit

theorem Re.err_some (t : Re) : t.err = if t.typed = false then 7 else if (t.ranged 0).isSome = false then 2 else if (t.named []).isSome = false then 4 else if 600 < t.size ∨ 9 < t.groups ∨ 32 < t.levels then 3 else 0 := by
  unfold Re.err
  cases t.ranged 0 <;> cases t.named [] <;> rfl

end Go.Proofs.YtjjhdddlbgdkeaaDoor

/- The reference's repeated: what stands for a repetition that does not stay. -/
namespace Go.Proofs.YtjjhdddlbgdkeaaDoor
open Go.RowKit
attribute [local go_sem] gives givesUpon

-- def BL := [.int .i64 p.op, .int .u64 p.set.a, .int .u64 p.set.b, .int .u64 p.set.c, .int .u64 p.set.d, .int .i64 p.lo, .int .i64 p.hi, .int .i64 p.gr, .slice ad m cap]
-- def Z9 := [.int .i64 0, .int .u64 0, .int .u64 0, .int .u64 0, .int .u64 0, .int .i64 0, .int .i64 0, .int .i64 0, .slice none 0 0]

/-- What the loops keep: the list so far, the argument's block, the result's, the node's under way. -/
structure RAt (S : Nat → Prop) (w : World) (ca : List Value) (v : Value) (L : List (Re × List Value)) (wr : World) : Prop where
  own : OwnRes wr (w.heap.size + 3) (Sb S w (w.heap.size + 3)) v L
  ra : Row wr w.heap.size ca 53
  rz : Row wr (w.heap.size + 1) [.int .i64 0, .int .u64 0, .int .u64 0, .int .u64 0, .int .u64 0, .int .i64 0, .int .i64 0, .int .i64 0, .slice none 0 0] 53
  re : Row wr (w.heap.size + 2) [.int .i64 3, .int .u64 0, .int .u64 0, .int .u64 0, .int .u64 0, .int .i64 0, .int .i64 0, .int .i64 0, v] 53
  bw : Below w.heap.size w wr
theorem RAt.later {S : Nat → Prop} {w : World} {ca : List Value} {v : Value} {L : List (Re × List Value)} {wr x : World} (h : RAt S w ca v L wr) (hb : Below wr.heap.size wr x) : RAt S w ca v L x :=
  ⟨h.own.below hb, h.ra.below hb h.ra.lt, h.rz.below hb h.rz.lt, h.re.below hb h.re.lt, h.bw.trans (hb.mono h.bw.size)⟩
/-- Behind an append and the store of the new slice. -/
theorem RAt.push {S : Nat → Prop} {w : World} {ca : List Value} {a a' : Option Addr} {n n' c c' : Nat} {L : List (Re × List Value)} {t : Re} {cs : List Value} {x x' : World} (h : RAt S w ca (.slice a n c) L x) (hn : n' = L.length + 1)
    (ho : x'.ownsRow (w.heap.size + 3) 53 9 (.slice a' n' c') n' (L.flatMap Prod.snd ++ cs)) (hg : x.grownBy x' (Value.slice a n c).ownBlock) (hnew : ∀ g, (Value.slice a' n' c').ownBlock = some g → (Value.slice a n c).ownBlock = some g ∨ x.heap.size ≤ g)
    (ht : t.InS (fun k => Sb S w (w.heap.size + 3) k ∧ (Value.slice a n c).ownBlock ≠ some k) x cs) : RAt S w ca (.slice a' n' c') (L ++ [(t, cs)]) (x'.setCell ⟨w.heap.size + 2, 8, none⟩ (.slice a' n' c')) ∧ Row x' (w.heap.size + 2) [.int .i64 3, .int .u64 0, .int .u64 0, .int .u64 0, .int .u64 0, .int .i64 0, .int .i64 0, .int .i64 0, .slice a n c] 53 := by
  have hv : ∀ g, (Value.slice a n c).ownBlock = some g → w.heap.size + 3 ≤ g := fun g hg => (h.own.lt g hg).1
  have hs := h.re.lt
  have hbl : ∀ j, j < w.heap.size + 3 → x'.heap[j]? = x.heap[j]? := fun j hj => grown_block hg hv j hj (by omega)
  have hp := h.own.push hn ho hg hnew ht
  have hre : Row x' (w.heap.size + 2) [.int .i64 3, .int .u64 0, .int .u64 0, .int .u64 0, .int .u64 0, .int .i64 0, .int .i64 0, .int .i64 0, .slice a n c] 53 := (hbl _ (by omega)).trans h.re
  have hra : Row x' w.heap.size ca 53 := (hbl _ (by omega)).trans h.ra
  have hrz : Row x' (w.heap.size + 1) [.int .i64 0, .int .u64 0, .int .u64 0, .int .u64 0, .int .u64 0, .int .i64 0, .int .i64 0, .int .i64 0, .slice none 0 0] 53 := (hbl _ (by omega)).trans h.rz
  have hbw : Below w.heap.size w x' := ⟨hg.os.trans h.bw.os, hg.tape.trans h.bw.tape, hg.output.trans h.bw.output, Nat.le_trans h.bw.size hg.size, fun j hj => (hbl j (by omega)).trans (h.bw.block j hj)⟩
  refine ⟨⟨?_, hra.other (by omega) _ _, hrz.other (by omega) _ _, hre.set 8 _, hbw.setCell (by show w.heap.size ≤ w.heap.size + 2; omega) _⟩, hre⟩
  exact hp.but (M := w.heap.size + 2) ((But.refl _ _).setCell (.inl (by simp)) _) (fun g hg => by have := (hp.lt g hg).1; omega) (fun h => by rcases h with h | h <;> omega)
/-- A repetition's node over a block that holds its operand. -/
theorem rept_in {S : Nat → Prop} {w x : World} {t : Re} {cs : List Value} {B : Nat} (lo hi : Int) (hx : t.InS (fun k => S k ∧ k < w.heap.size) x cs) (hw : w.heap.size ≤ B) (hr : Row x B cs 53) (hlo : I64 lo) (hhi : I64 hi) : (t.rept lo hi).InS (fun k => (S k ∧ k < w.heap.size) ∨ B ≤ k) x [.int .i64 5, .int .u64 0, .int .u64 0, .int .u64 0, .int .u64 0, .int .i64 lo, .int .i64 hi, .int .i64 0, .slice (some ⟨B, 0, none⟩) 1 1] :=
  OwnRes.node (OwnRes.same (n := 1) (base := B) hr (Nat.le_refl _) (by decide) (by simp) (hx.step (Nat.le_refl _) fun k hk _ => ⟨⟨.inl hk, by omega⟩, rfl⟩)) (fun k hk => .inr hk) (Pay.ofRep lo hi) (Pay.ofRep_wf hlo hhi)

end Go.Proofs.YtjjhdddlbgdkeaaDoor

/- The reference's grown: the number of nodes of the expanded tree, at most 4097. -/
namespace Go.Proofs.YtjjhdddlbgdkeaaDoor
open Go.RowKit
attribute [local go_sem] gives givesUpon

def Pay.simple (p : Pay) : Bool := (decide (p.lo = 0) && decide (p.hi = 1)) || (decide (p.lo ≤ 1) && decide (p.hi = -1))
def grownL (n lo hi : Int) : Int := if hi = 0 then 1 else if lo = 1 ∧ hi = 1 then n else if hi = -1 then min 4097 (lo * n + 2) else min 4097 (lo * n + (hi - lo) * (n + 1) + 1)
mutual
def Re.grown : Re → Int
  | .mk p xs => if p.op = 5 ∧ p.simple = false then grownL (Re.growns xs 0) p.lo p.hi else min 4097 (Re.growns xs 0 + 1)
def Re.growns : List Re → Int → Int
  | [], n => n
  | t :: ts, n => Re.growns ts (min 4097 (n + t.grown))
end
theorem Re.growns_take : ∀ (xs : List Re) (k : Nat) (a : Re) (n : Int), xs[k]? = some a → Re.growns (xs.take (k + 1)) n = min 4097 (Re.growns (xs.take k) n + a.grown)
  | t :: ts, 0, a, n, h => by simp at h; subst h; simp [Re.growns]
  | t :: ts, k + 1, a, n, h => by
    rw [List.take_succ_cons, List.take_succ_cons, Re.growns, Re.growns]
    exact Re.growns_take ts k a _ (by simpa using h)

theorem grown_weight {n lo hi : Int} (hn : 0 ≤ n) (hlo : 0 ≤ lo ∧ lo ≤ 64) (hhi : hi = -1 ∨ (lo ≤ hi ∧ hi ≤ 64)) (hs : ¬ ((lo = 0 ∧ hi = 1) ∨ (lo ≤ 1 ∧ hi = -1))) : grownL (min 4097 n) lo hi = min 4097 (weightL n lo hi) := by
  have c1 : ¬ ((lo = 0 ∧ (hi = 1 ∨ hi = -1)) ∨ (lo = 1 ∧ hi = -1)) := by omega
  unfold grownL weightL
  rw [if_neg c1]
  by_cases c2 : hi = 0
  · rw [if_pos c2, if_pos c2]; omega
  rw [if_neg c2, if_neg c2]
  by_cases c3 : lo = 1 ∧ hi = 1
  · rw [if_pos c3, if_pos c3]
  rw [if_neg c3, if_neg c3]
  by_cases h97 : n ≤ 4097
  · have e : min 4097 n = n := by omega
    rw [e]
    by_cases c4 : hi = lo
    · rw [if_pos c4, if_neg (by omega)]
      subst c4
      simp only [Int.sub_self, Int.zero_mul]
      omega
    · rw [if_neg c4]
      by_cases c5 : hi = -1
      · rw [if_pos c5, if_pos c5]; omega
      · rw [if_neg c5, if_neg c5]; omega
  · have e : min 4097 n = 4097 := by omega
    rw [e]
    have h1 : 0 ≤ lo * n := Int.mul_nonneg hlo.1 hn
    by_cases c5 : hi = -1
    · rw [if_pos c5, if_neg (by omega), if_pos c5]
      have h2 : 1 * n ≤ lo * n := Int.mul_le_mul_of_nonneg_right (by omega) hn
      have h3 : 1 * 4097 ≤ lo * 4097 := Int.mul_le_mul_of_nonneg_right (by omega) (by omega)
      omega
    · rw [if_neg c5]
      have h5 : 0 ≤ lo * 4097 := Int.mul_nonneg hlo.1 (by omega)
      by_cases c4 : hi = lo
      · rw [if_pos c4]
        have h2 : 1 * n ≤ lo * n := Int.mul_le_mul_of_nonneg_right (by omega) hn
        have h3 : 1 * 4097 ≤ lo * 4097 := Int.mul_le_mul_of_nonneg_right (by omega) (by omega)
        have h4 : 0 ≤ (hi - lo) * (4097 + 1) := Int.mul_nonneg (by omega) (by omega)
        omega
      · rw [if_neg c4, if_neg c5]
        have h2 : 1 * (n + 1) ≤ (hi - lo) * (n + 1) := Int.mul_le_mul_of_nonneg_right (by omega) (by omega)
        have h3 : 1 * (4097 + 1) ≤ (hi - lo) * (4097 + 1) := Int.mul_le_mul_of_nonneg_right (by omega) (by omega)
        omega
theorem Pay.simple_iff {p : Pay} : p.simple = true ↔ ((p.lo = 0 ∧ p.hi = 1) ∨ (p.lo ≤ 1 ∧ p.hi = -1)) := by simp [Pay.simple]
mutual
theorem Re.grown_weigh : ∀ (t : Re), t.okr = true → t.grown = min 4097 t.weigh
  | .mk p xs, hok => by
    rw [Re.okr, Bool.and_eq_true, decide_eq_true_eq] at hok
    have hb := Re.weighs_bd xs 0 hok.2 (by omega)
    have h := Re.growns_weighs xs 0 hok.2 (by omega)
    rw [show min 4097 (0 : Int) = 0 by omega] at h
    rw [Re.grown, Re.weigh, h]
    by_cases h5 : p.op = 5
    · have hbd := Pay.badRep_false (hok.1 h5)
      rw [if_pos h5]
      by_cases hs : p.simple = true
      · rw [if_neg (by rw [hs]; simp)]
        have hs' := Pay.simple_iff.1 hs
        have c1 : (p.lo = 0 ∧ (p.hi = 1 ∨ p.hi = -1)) ∨ (p.lo = 1 ∧ p.hi = -1) := by omega
        have e : weightL (Re.weighs xs 0) p.lo p.hi = Re.weighs xs 0 + 1 := by unfold weightL; rw [if_pos c1]
        rw [e]; omega
      · have hs2 : p.simple = false := by simpa using hs
        rw [if_pos ⟨h5, hs2⟩, grown_weight hb.1 hbd.1 hbd.2 (fun h => hs (Pay.simple_iff.2 h))]
        omega
    · rw [if_neg h5, if_neg (fun h => h5 h.1)]
      omega
theorem Re.growns_weighs : ∀ (xs : List Re) (n : Int), Re.okrs xs = true → 0 ≤ n ∧ n ≤ 1073741824 → Re.growns xs (min 4097 n) = min 4097 (Re.weighs xs n)
  | [], n, _, _ => by rw [Re.growns, Re.weighs]
  | t :: ts, n, hok, hn => by
    rw [Re.okrs, Bool.and_eq_true] at hok
    have h1 := Re.grown_weigh t hok.1
    have h2 := Re.weigh_bd t hok.1
    have h3 := Re.growns_weighs ts (min 1073741824 (n + t.weigh)) hok.2 (by omega)
    rw [Re.growns, Re.weighs, h1, ← h3]
    congr 1
    omega
end
theorem Re.grown_bd {t : Re} (h : t.okr = true) : 0 ≤ t.grown ∧ t.grown ≤ 4097 := by
  have := Re.grown_weigh t h
  have := Re.weigh_bd t h
  omega
theorem Re.growns_bd {xs : List Re} {n : Int} (h : Re.okrs xs = true) (hn : 0 ≤ n ∧ n ≤ 4097) : 0 ≤ Re.growns xs n ∧ Re.growns xs n ≤ 4097 := by
  have h1 := Re.growns_weighs xs n h (by omega)
  have h2 := Re.weighs_bd xs n h (by omega)
  have e : min 4097 n = n := by omega
  rw [e] at h1
  omega

-- def BL := [.int .i64 p.op, .int .u64 p.set.a, .int .u64 p.set.b, .int .u64 p.set.c, .int .u64 p.set.d, .int .i64 p.lo, .int .i64 p.hi, .int .i64 p.gr, .slice ad n cap]
-- def BX := [.int .i64 p.op, .int .u64 p.set.a, .int .u64 p.set.b, .int .u64 p.set.c, .int .u64 p.set.d, .int .i64 p.lo, .int .i64 p.hi, .int .i64 p.gr, .slice ad xs.length cap]

end Go.Proofs.YtjjhdddlbgdkeaaDoor

/- Two trees one after the other, and as alternatives: the plain law. No program. -/
namespace Go.Proofs.YtjjhdddlbgdkeaaDoor
open Go.RowKit

theorem Re.rep_pay {p : Pay} {xs : List Re} (h : (Re.mk p xs).typed = true) (hop : p.op = 5) : p = Pay.ofRep p.lo p.hi := by
  rw [Re.typed] at h
  simp only [Bool.and_eq_true] at h
  have h1 := h.1
  unfold Pay.shaped at h1
  simp [hop] at h1
  obtain ⟨op, set, lo, hi, gr⟩ := p
  simp only at hop h1 ⊢
  unfold Pay.ofRep
  rw [hop, h1.2, h1.1.2]

def Re.cat2 (a b : Re) : Re := .mk (Pay.of 3) [a, b]
def Re.alt2 (a b : Re) : Re := .mk (Pay.of 4) [a, b]

theorem Re.err_of {t : Re} (h1 : t.typed = true) (h2 : (t.ranged 0).isSome = true) (h3 : (t.named []).isSome = true) (h4 : t.size ≤ 600 ∧ t.groups ≤ 9 ∧ t.levels ≤ 32) : t.err = 0 := by
  unfold Re.err
  have h2' : (t.ranged 0).isNone = false := by cases hx : t.ranged 0 with | none => rw [hx] at h2; cases h2 | some n => rfl
  have h3' : (t.named []).isNone = false := by cases hx : t.named [] with | none => rw [hx] at h3; cases h3 | some n => rfl
  rw [h1, h2', h3']
  simp
  omega

mutual
/-- Without groups, no name is closed. -/
theorem Re.named_nogroup : ∀ (t : Re) (l l' : List Int), t.groups = 0 → t.named l = some l' → l' = l
  | .mk p xs, l, l', hg, h => by
    simp only [Re.groups, Re.count] at hg
    rw [Re.named] at h
    split at h
    · cases h
    · cases hx : Re.nameds xs l with
      | none => rw [hx] at h; cases h
      | some l2 =>
        rw [hx] at h
        have h2 := Re.nameds_nogroup xs l l2 (by omega) hx
        have h6 : ¬ p.op = 6 := by intro h6; simp [h6] at hg
        dsimp only at h
        rw [if_neg h6] at h
        exact (Option.some.inj h).symm.trans h2
theorem Re.nameds_nogroup : ∀ (xs : List Re) (l l' : List Int), Re.counts (· == 6) xs = 0 → Re.nameds xs l = some l' → l' = l
  | [], l, l', _, h => by rw [Re.nameds] at h; exact (Option.some.inj h).symm
  | t :: ts, l, l', hg, h => by
    rw [Re.counts] at hg
    rw [Re.nameds] at h
    cases hx : t.named l with
    | none => rw [hx] at h; cases h
    | some l2 =>
      rw [hx] at h
      have h1 := Re.named_nogroup t l l2 (by simp only [Re.groups]; omega) hx
      have h2 := Re.nameds_nogroup ts l2 l' (by omega) h
      exact h2.trans h1
end
mutual
theorem Re.learn_nogroup : ∀ (t : Re) (g : Int → Option Facts), t.groups = 0 → (t.learn g).2 = g
  | .mk p xs, g, hg => by
    simp only [Re.groups, Re.count] at hg
    have h6 : ¬ p.op = 6 := by intro h6; simp [h6] at hg
    have h2 := Re.learns_nogroup xs g (by omega)
    rw [Re.learn]
    unfold Pay.learn
    split
    · exact h2
    split
    · exact h2
    split
    · exact h2
    split
    · exact h2
    split
    · exact h2
    · exact h2
theorem Re.learns_nogroup : ∀ (xs : List Re) (g : Int → Option Facts), Re.counts (· == 6) xs = 0 → (Re.learns xs g).2 = g
  | [], g, _ => by rw [Re.learns]
  | t :: ts, g, hg => by
    rw [Re.counts] at hg
    rw [Re.learns]
    simp only []
    rw [Re.learns_nogroup ts _ (by omega), Re.learn_nogroup t g (by simp only [Re.groups]; omega)]
end

theorem lsum_nonneg {a b : Int} (ha : 0 ≤ a) (hb : 0 ≤ b) : 0 ≤ lsum a b := by unfold lsum; split <;> omega
theorem ltimes_nonneg {a n : Int} (ha : 0 ≤ a) (hn : 0 ≤ n) : 0 ≤ ltimes a n := by
  unfold ltimes
  have := Int.mul_nonneg ha hn
  split
  · omega
  · split
    · omega
    · omega
def GLe (g : Int → Option Facts) : Prop := ∀ k f, g k = some f → 0 ≤ f.least
theorem foldl_least (f : Facts → Facts → Facts) (hf : ∀ a b, 0 ≤ a.least → 0 ≤ b.least → 0 ≤ (f a b).least) : ∀ (l : List Facts) (a : Facts), 0 ≤ a.least → (∀ b, b ∈ l → 0 ≤ b.least) → 0 ≤ (l.foldl f a).least
  | [], a, h, _ => h
  | b :: l, a, h, hl => foldl_least f hf l _ (hf a b h (hl b (by simp))) (fun c hc => hl c (by simp [hc]))
theorem Pay.learn_least (p : Pay) (hp : p.op = 5 → 0 ≤ p.lo) (l : List Facts) (g : Int → Option Facts) (hl : ∀ b, b ∈ l → 0 ≤ b.least) (hg : GLe g) : 0 ≤ (p.learn l g).1.least ∧ GLe (p.learn l g).2 := by
  have h0 : 0 ≤ (l.headD Facts.zero).least := by
    cases l with
    | nil => exact Int.le_refl 0
    | cons f l => exact hl f (by simp)
  unfold Pay.learn
  split
  · exact ⟨by show (0 : Int) ≤ 1; decide, hg⟩
  split
  · refine ⟨?_, hg⟩
    cases l with
    | nil => exact Int.le_refl 0
    | cons f l => exact foldl_least _ (fun a b ha hb => lsum_nonneg ha hb) l f (hl f (by simp)) (fun c hc => hl c (by simp [hc]))
  split
  · refine ⟨?_, hg⟩
    cases l with
    | nil => exact Int.le_refl 0
    | cons f l => exact foldl_least _ (fun a b ha hb => by show 0 ≤ min a.least b.least; omega) l f (hl f (by simp)) (fun c hc => hl c (by simp [hc]))
  split
  · rename_i h5
    exact ⟨ltimes_nonneg h0 (hp h5), hg⟩
  split
  · refine ⟨h0, fun k f hk => ?_⟩
    dsimp only at hk
    split at hk
    · cases hk; exact h0
    · exact hg k f hk
  split
  · refine ⟨?_, hg⟩
    cases hx : g p.gr with
    | none => exact Int.le_refl 0
    | some f => exact hg _ f hx
  · exact ⟨Int.le_refl 0, hg⟩
mutual
theorem Re.learn_least : ∀ (t : Re) (g : Int → Option Facts), t.okr = true → GLe g → 0 ≤ (t.learn g).1.least ∧ GLe (t.learn g).2
  | .mk p xs, g, hok, hg => by
    rw [Re.okr, Bool.and_eq_true, decide_eq_true_eq] at hok
    have h := Re.learns_least xs g hok.2 hg
    rw [Re.learn]
    exact Pay.learn_least p (fun h5 => (Pay.badRep_false (hok.1 h5)).1.1) _ _ h.1 h.2
theorem Re.learns_least : ∀ (xs : List Re) (g : Int → Option Facts), Re.okrs xs = true → GLe g → (∀ f, f ∈ (Re.learns xs g).1 → 0 ≤ f.least) ∧ GLe (Re.learns xs g).2
  | [], g, _, hg => by rw [Re.learns]; exact ⟨fun f hf => (by cases hf), hg⟩
  | t :: ts, g, hok, hg => by
    rw [Re.okrs, Bool.and_eq_true] at hok
    have h1 := Re.learn_least t g hok.1 hg
    have h2 := Re.learns_least ts _ hok.2 h1.2
    rw [Re.learns]
    refine ⟨fun f hf => ?_, h2.2⟩
    rcases List.mem_cons.1 hf with hf | hf
    · rw [hf]; exact h1.1
    · exact h2.1 f hf
end
theorem Re.facts_least (t : Re) : 0 ≤ t.facts.least := by
  by_cases h : t.err = 0
  · rw [Re.facts_some h]
    exact (Re.learn_least t _ (Re.ranged_okr t 0 (Re.err_zero h).2.2.1) (fun k f hf => by cases hf)).1
  · rw [Re.facts_zero h]
    exact Int.le_refl 0

theorem cat2_size (a b : Re) : (a.cat2 b).size = a.size + b.size + 1 := by unfold Re.cat2; rw [Re.size_mk]; simp [Re.sizes, Re.counts, Re.size]
theorem alt2_size (a b : Re) : (a.alt2 b).size = a.size + b.size + 1 := by unfold Re.alt2; rw [Re.size_mk]; simp [Re.sizes, Re.counts, Re.size]
theorem cat2_groups (a b : Re) : (a.cat2 b).groups = a.groups + b.groups := by simp [Re.cat2, Re.groups, Re.count, Re.counts, Pay.of]
theorem alt2_groups (a b : Re) : (a.alt2 b).groups = a.groups + b.groups := by simp [Re.alt2, Re.groups, Re.count, Re.counts, Pay.of]

/-- What the law asks of two trees that are valid together. -/
structure Comp (a b : Re) : Prop where
  alt : (a.alt2 b).err = 0
  cfacts : (a.cat2 b).facts = a.facts.cat b.facts
  afacts : (a.alt2 b).facts = a.facts.alt b.facts
theorem comp_law (a b : Re) (h : (a.cat2 b).err = 0) (hg : (a.cat2 b).groups = 0) : Comp a b := by
  have he := Re.err_zero h
  obtain ⟨h1, h2, h3, h4, h5, h6, h7⟩ := he
  rw [cat2_groups] at hg
  rw [cat2_size] at h5
  have hga : a.groups = 0 := by omega
  have hgb : b.groups = 0 := by omega
  have hl : (a.cat2 b).levels = (a.alt2 b).levels := by simp [Re.cat2, Re.alt2, Re.levels]
  have hlv : a.levels ≤ 32 ∧ b.levels ≤ 32 := by simp [Re.cat2, Re.levels, Re.levelss] at h7; omega
  have ht : a.typed = true ∧ b.typed = true := by
    simp only [Re.cat2, Re.typed, Re.typeds, Bool.and_eq_true] at h1
    exact ⟨h1.2.1, h1.2.2.1⟩
  have hr : (a.ranged 0).isSome = true ∧ (b.ranged 0).isSome = true := by
    simp only [Re.cat2, Re.ranged, Re.rangeds] at h3
    rw [if_neg (by simp [Pay.of]), if_neg (by simp [Pay.of])] at h3
    cases hx : a.ranged 0 with
    | none => rw [hx] at h3; cases h3
    | some n =>
      rw [hx] at h3
      have hn := Re.ranged_groups a 0 n hx
      have hn0 : n = 0 := by omega
      subst hn0
      simp only [] at h3
      cases hy : b.ranged 0 with
      | none => rw [hy] at h3; cases h3
      | some m => exact ⟨rfl, rfl⟩
  have hn : (a.named []).isSome = true ∧ (b.named []).isSome = true := by
    simp only [Re.cat2, Re.named, Re.nameds] at h4
    rw [if_neg (by simp [Pay.of])] at h4
    cases hx : a.named [] with
    | none => rw [hx] at h4; cases h4
    | some l =>
      rw [hx] at h4
      obtain rfl := Re.named_nogroup a [] l hga hx
      simp only [] at h4
      cases hy : b.named [] with
      | none => rw [hy] at h4; cases h4
      | some m => exact ⟨rfl, rfl⟩
  have ea : a.err = 0 := Re.err_of ht.1 hr.1 hn.1 ⟨by omega, by omega, hlv.1⟩
  have eb : b.err = 0 := Re.err_of ht.2 hr.2 hn.2 ⟨by omega, by omega, hlv.2⟩
  have ealt : (a.alt2 b).err = 0 := by
    refine Re.err_of ?_ ?_ ?_ ⟨by rw [alt2_size]; omega, by rw [alt2_groups]; omega, by rw [← hl]; exact h7⟩
    · simp only [Re.alt2, Re.typed, Re.typeds, Bool.and_eq_true]
      exact ⟨(show (Pay.of 4).shaped 2 = true by decide), ht.1, ht.2, trivial⟩
    · simp only [Re.alt2, Re.ranged, Re.rangeds]
      rw [if_neg (by simp [Pay.of]), if_neg (by simp [Pay.of])]
      cases hx : a.ranged 0 with
      | none => rw [hx] at hr; cases hr.1
      | some n =>
        have hn := Re.ranged_groups a 0 n hx
        have hn0 : n = 0 := by omega
        subst hn0
        simp only []
        cases hy : b.ranged 0 with
        | none => rw [hy] at hr; cases hr.2
        | some m => rfl
    · simp only [Re.alt2, Re.named, Re.nameds]
      rw [if_neg (by simp [Pay.of])]
      cases hx : a.named [] with
      | none => rw [hx] at hn; cases hn.1
      | some l =>
        obtain rfl := Re.named_nogroup a [] l hga hx
        simp only []
        cases hy : b.named [] with
        | none => rw [hy] at hn; cases hn.2
        | some m => simp [Pay.of]
  refine ⟨ealt, ?_, ?_⟩
  · rw [Re.facts_some h, Re.facts_some ea, Re.facts_some eb]
    simp only [Re.cat2, Re.learn, Re.learns, Re.learn_nogroup a _ hga]
    rfl
  · rw [Re.facts_some ealt, Re.facts_some ea, Re.facts_some eb]
    simp only [Re.alt2, Re.learn, Re.learns, Re.learn_nogroup a _ hga]
    rfl
end Go.Proofs.YtjjhdddlbgdkeaaDoor

/- The reference's expanded: the same tree as the program's expand. -/
namespace Go.Proofs.YtjjhdddlbgdkeaaDoor
open Go.RowKit
attribute [local go_sem] gives givesUpon

-- def BL := [.int .i64 p.op, .int .u64 p.set.a, .int .u64 p.set.b, .int .u64 p.set.c, .int .u64 p.set.d, .int .i64 p.lo, .int .i64 p.hi, .int .i64 p.gr, .slice ad xs.length cap]
-- def Z9 := [.int .i64 0, .int .u64 0, .int .u64 0, .int .u64 0, .int .u64 0, .int .i64 0, .int .i64 0, .int .i64 0, .slice none 0 0]
-- def E9 := [.int .i64 p.op, .int .u64 p.set.a, .int .u64 p.set.b, .int .u64 p.set.c, .int .u64 p.set.d, .int .i64 p.lo, .int .i64 p.hi, .int .i64 p.gr, .slice none 0 0]
-- def R9 := [.int .i64 q.op, .int .u64 q.set.a, .int .u64 q.set.b, .int .u64 q.set.c, .int .u64 q.set.d, .int .i64 q.lo, .int .i64 q.hi, .int .i64 q.gr, .slice ad' m' cap'']

end Go.Proofs.YtjjhdddlbgdkeaaDoor

/- The reference's Expand: as the program's. -/
namespace Go.Proofs.YtjjhdddlbgdkeaaDoor
open Go.RowKit
attribute [local go_sem] gives givesUpon

-- def BL := [.int .i64 p.op, .int .u64 p.set.a, .int .u64 p.set.b, .int .u64 p.set.c, .int .u64 p.set.d, .int .i64 p.lo, .int .i64 p.hi, .int .i64 p.gr, .slice ad xs.length cap]
-- def Z9 := [.int .i64 0, .int .u64 0, .int .u64 0, .int .u64 0, .int .u64 0, .int .i64 0, .int .i64 0, .int .i64 0, .slice none 0 0]
-- def W2 := ((w.alloc (.cells #[.int .i64 p.op, .int .u64 p.set.a, .int .u64 p.set.b, .int .u64 p.set.c, .int .u64 p.set.d, .int .i64 p.lo, .int .i64 p.hi, .int .i64 p.gr, .slice ad xs.length cap] 53)).alloc (.cells #[.int .i64 0, .int .u64 0, .int .u64 0, .int .u64 0, .int .u64 0, .int .i64 0, .int .i64 0, .int .i64 0, .slice none 0 0] 53))

end Go.Proofs.YtjjhdddlbgdkeaaDoor
