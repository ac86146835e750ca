/- Trees that a call builds: what is read of a tree whatever the other blocks are; slices of trees of the call's own. -/
import Derived.Test.YthnpbopnpdlmnaaDoorA03
import Derived.Test.YthnpbopnpdlmnaaDoorA05
import Derived.Deep.MidRow
import Derived.Laws.MakeOwn
namespace Go.Proofs.YthnpbopnpdlmnaaDoor
open Go.RowKit

def Re.InS (S : Nat → Prop) (w : World) (t : Re) (cs : List Value) : Prop := ∀ x : World, w.heap.size ≤ x.heap.size → (∀ k, S k → k < w.heap.size → x.heap[k]? = w.heap[k]?) → t.In x cs

theorem Re.InS.self {S : Nat → Prop} {w : World} {t : Re} {cs : List Value} (h : t.InS S w cs) : t.In w cs := h w (Nat.le_refl _) fun _ _ _ => rfl
theorem Re.InS.step {S S' : Nat → Prop} {w w' : World} {t : Re} {cs : List Value} (h : t.InS S w cs) (hs : w.heap.size ≤ w'.heap.size) (hk : ∀ k, S k → k < w.heap.size → S' k ∧ w'.heap[k]? = w.heap[k]?) : t.InS S' w' cs :=
  fun x h1 h2 => h x (Nat.le_trans hs h1) fun k h3 h4 => (h2 k (hk k h3 h4).1 (Nat.lt_of_lt_of_le h4 hs)).trans (hk k h3 h4).2
theorem Re.InS.lim {S : Nat → Prop} {w : World} {t : Re} {cs : List Value} (h : t.InS S w cs) : t.InS (fun k => S k ∧ k < w.heap.size) w cs := h.step (Nat.le_refl _) fun _ hk hl => ⟨⟨hk, hl⟩, rfl⟩
theorem Re.InS.mono {S S' : Nat → Prop} {w : World} {t : Re} {cs : List Value} (h : t.InS S w cs) (hs : ∀ k, S k → S' k) : t.InS S' w cs := h.step (Nat.le_refl _) fun k hk _ => ⟨hs k hk, rfl⟩
theorem Re.InS.below {S : Nat → Prop} {w w' : World} {t : Re} {cs : List Value} (h : t.InS S w cs) (hb : Below w.heap.size w w') : t.InS S w' cs := h.step hb.size fun k hS hk => ⟨hS, hb.block k hk⟩
theorem Re.InS.but {S : Nat → Prop} {Bs : List Nat} {w w' : World} {t : Re} {cs : List Value} (h : t.InS S w cs) (hb : But Bs w w') (hS : ∀ k, S k → k ∉ Bs) : t.InS S w' cs := h.step hb.size fun k hk hl => ⟨hk, hb.block k hl (hS k hk)⟩

def OwnRes (w : World) (base : Nat) (S : Nat → Prop) (v : Value) (L : List (Re × List Value)) : Prop :=
  w.ownsRow base 28 9 v L.length (L.flatMap Prod.snd) ∧ ∀ e, e ∈ L → e.1.InS (fun k => S k ∧ v.ownBlock ≠ some k) w e.2

theorem OwnRes.nil (w : World) (base : Nat) (S : Nat → Prop) : OwnRes w base S (.slice none 0 0) [] := ⟨World.ownsRow_nil _ _ _ _, fun _ h => by cases h⟩
theorem OwnRes.lt {w : World} {base : Nat} {S : Nat → Prop} {v : Value} {L : List (Re × List Value)} (h : OwnRes w base S v L) : ∀ g, v.ownBlock = some g → base ≤ g ∧ g < w.heap.size := World.ownsRow.lt h.1
theorem OwnRes.below {w w' : World} {base : Nat} {S : Nat → Prop} {v : Value} {L : List (Re × List Value)} (h : OwnRes w base S v L) (hb : Below w.heap.size w w') : OwnRes w' base S v L :=
  ⟨World.ownsRow.kept h.1 (row := none) ⟨hb.os, hb.tape, hb.output, hb.size, fun j hj _ => hb.block j hj⟩ (by
    cases hv : v.ownBlock with
    | none => exact .inl rfl
    | some g => exact .inr (fun e => by cases e)), fun e he => (h.2 e he).below hb⟩
theorem OwnRes.but {w w' : World} {base M : Nat} {S : Nat → Prop} {v : Value} {L : List (Re × List Value)} (h : OwnRes w base S v L) (hb : But [M] w w') (hv : ∀ g, v.ownBlock = some g → g ≠ M) (hM : ¬ S M) : OwnRes w' base S v L :=
  ⟨World.ownsRow.kept h.1 (row := some M) ⟨hb.os, hb.tape, hb.output, hb.size, fun j hj hn => hb.block j hj (by simp; intro e; exact hn (by rw [e]))⟩ (by
    cases hg : v.ownBlock with
    | none => exact .inl rfl
    | some g => exact .inr (fun e => hv g hg (Option.some.inj e))), fun e he => (h.2 e he).but hb (fun k hk => by simp; rintro rfl; exact hM hk.1)⟩
theorem OwnRes.push {w w' : World} {base : Nat} {S : Nat → Prop} {a a' : Option Addr} {n n' c c' : Nat} {L : List (Re × List Value)} {t : Re} {cs : List Value} (h : OwnRes w base S (.slice a n c) L) (hn : n' = L.length + 1)
    (ho : w'.ownsRow base 28 9 (.slice a' n' c') n' (L.flatMap Prod.snd ++ cs)) (hg : w.grownBy w' (Value.slice a n c).ownBlock) (hnew : ∀ g, (Value.slice a' n' c').ownBlock = some g → (Value.slice a n c).ownBlock = some g ∨ w.heap.size ≤ g)
    (ht : t.InS (fun k => S k ∧ (Value.slice a n c).ownBlock ≠ some k) w cs) : OwnRes w' base S (.slice a' n' c') (L ++ [(t, cs)]) := by
  subst hn
  refine ⟨by simpa [List.flatMap_append] using ho, fun e he => ?_⟩
  have key : ∀ (t : Re) (cs : List Value), t.InS (fun k => S k ∧ (Value.slice a n c).ownBlock ≠ some k) w cs → t.InS (fun k => S k ∧ (Value.slice a' (L.length + 1) c').ownBlock ≠ some k) w' cs := by
    intro t cs hh
    refine hh.step hg.size fun k hk hl => ⟨⟨hk.1, fun e2 => ?_⟩, hg.block k hl (fun e2 => hk.2 e2.symm)⟩
    rcases hnew k e2 with h3 | h3
    · exact hk.2 h3
    · omega
  rcases List.mem_append.1 he with he | he
  · exact key _ _ (h.2 e he)
  · rw [List.mem_singleton.1 he]; exact key _ _ ht

theorem OwnRes.of_grows {x w' : World} {S : Nat → Prop} {v' : Value} {L : List (Re × List Value)} {n' : Nat} {xs : List Value} (ho : w'.ownsRow x.heap.size 28 9 v' n' xs) (hg : x.grownBy w' none) (hn : n' = L.length) (hx : xs = L.flatMap Prod.snd) (hel : ∀ e, e ∈ L → e.1.InS S x e.2) : OwnRes w' x.heap.size S v' L := by
  subst hn hx
  refine ⟨ho, fun e he => (hel e he).step hg.size fun k hk hl => ⟨⟨hk, fun e2 => ?_⟩, hg.block k hl (by simp)⟩⟩
  have := (World.ownsRow.lt ho k e2).1
  omega
theorem flat9 : ∀ (L : List (Re × List Value)) (_ : ∀ e, e ∈ L → e.2.length = 9) (i : Nat) (e : Re × List Value) (j : Nat), L[i]? = some e → j < 9 → (L.flatMap Prod.snd)[i * 9 + j]? = e.2[j]?
  | [], _, i, e, j, h, _ => by simp at h
  | a :: L, hl, i, e, j, h, hj => by
    have ha := hl a (by simp)
    cases i with
    | zero =>
      simp at h
      subst h
      rw [List.flatMap_cons, Nat.zero_mul, Nat.zero_add, List.getElem?_append_left (by omega)]
    | succ i =>
      rw [List.flatMap_cons, List.getElem?_append_right (by omega)]
      have : (i + 1) * 9 + j - a.2.length = i * 9 + j := by omega
      rw [this]
      exact flat9 L (fun e he => hl e (by simp [he])) i e j (by simpa using h) hj

theorem AllIn_of (x : World) (g : Nat) : ∀ (L : List (Re × List Value)) (k : Nat), (∀ (i : Nat) (e : Re × List Value), L[i]? = some e → CellsAt x g (k + i * 9) e.2 ∧ e.1.In x e.2) → Re.AllIn x (L.map Prod.fst) (some ⟨g, 0, none⟩) k
  | [], k, _ => by simp [Re.AllIn]
  | e :: L, k, h => by
    rw [List.map_cons, Re.AllIn]
    have h0 := h 0 e rfl
    exact ⟨⟨g, 0, e.2, rfl, by simpa using h0.1, h0.2⟩, AllIn_of x g L (k + 9) fun i e' hi => by
      have h1 := h (i + 1) e' (by simpa using hi)
      exact ⟨by rw [show k + 9 + i * 9 = k + (i + 1) * 9 by omega]; exact h1.1, h1.2⟩⟩

theorem OwnRes.node {w : World} {base : Nat} {S : Nat → Prop} {v : Value} {L : List (Re × List Value)} (h : OwnRes w base S v L) (hb : ∀ k, base ≤ k → S k) (p : Pay) (hp : p.wf) : (Re.mk p (L.map Prod.fst)).InS S w (p.cells v) := by
  intro x h1 h2
  rw [Re.In]
  have hlen : (L.map Prod.fst).length = L.length := by simp
  have hel : ∀ e, e ∈ L → e.1.In x e.2 := fun e he => h.2 e he x h1 fun k hk hl => h2 k hk.1 hl
  rcases h.1.2 with ⟨rfl, h0⟩ | ⟨g, cap, cur, rfl, hg, hcur, hnc, hcm, hsz, hx⟩
  · have : L = [] := List.length_eq_zero_iff.1 h0
    subst this
    exact ⟨none, 0, by simp, hp, Nat.le_refl _, Nat.zero_le _, fun _ => rfl, by simp [Re.AllIn]⟩
  · refine ⟨some ⟨g, 0, none⟩, cap, by rw [hlen], hp, by rw [hlen]; exact hnc, hcm, fun e => (by cases e), AllIn_of x g L 0 fun i e hi => ⟨fun j u hj => ?_, hel e (List.mem_of_getElem? hi)⟩⟩
    have h9 : ∀ e, e ∈ L → e.2.length = 9 := fun e he => (hel e he).nine
    have hj9 : j < 9 := by
      have := h9 e (List.mem_of_getElem? hi)
      have := (List.getElem?_eq_some_iff.1 hj).1
      omega
    have hil : i < L.length := (List.getElem?_eq_some_iff.1 hi).1
    have hgl : g < w.heap.size := (h.lt g rfl).2
    rw [World.cell?_of_block (h2 g (hb g hg) hgl), Nat.zero_add, World.ownsRow.cellAt h.1 (i * 9 + j) (by omega), flat9 L h9 i e j hi hj9, hj]
theorem OwnRes.elem {w : World} {base : Nat} {S : Nat → Prop} {v : Value} {L : List (Re × List Value)} (h : OwnRes w base S v L) (i : Nat) (e : Re × List Value) (hi : L[i]? = some e) : ∃ g c, v = .slice (some ⟨g, 0, none⟩) L.length c ∧ base ≤ g ∧ g < w.heap.size ∧ L.length ≤ c ∧ CellsAt w g (i * 9) e.2 := by
  have hil : i < L.length := (List.getElem?_eq_some_iff.1 hi).1
  rcases h.1.2 with ⟨_, h0⟩ | ⟨g, cap, cur, rfl, hg, hcur, hnc, hcm, hsz, hx⟩
  · omega
  · refine ⟨g, cap, rfl, hg, (h.lt g rfl).2, hnc, fun j u hj => ?_⟩
    have h9 : ∀ e, e ∈ L → e.2.length = 9 := fun e he => (h.2 e he).self.nine
    have hj9 : j < 9 := by
      have := h9 e (List.mem_of_getElem? hi)
      have := (List.getElem?_eq_some_iff.1 hj).1
      omega
    rw [World.ownsRow.cellAt h.1 (i * 9 + j) (by omega), flat9 L h9 i e j hi hj9, hj]
theorem Re.cells_shape {w : World} {t : Re} {cs : List Value} (h : t.In w cs) : ∃ (p : Pay) (ad : Option Addr) (n c : Nat), cs = [.int .i64 p.op, .int .u64 p.set.a, .int .u64 p.set.b, .int .u64 p.set.c, .int .u64 p.set.d, .int .i64 p.lo, .int .i64 p.hi, .int .i64 p.gr, .slice ad n c] := by
  cases t with
  | mk p xs => rw [Re.In] at h; obtain ⟨ad, cap, rfl, _⟩ := h; exact ⟨p, ad, _, cap, rfl⟩
theorem OwnRes.same {w : World} {base n B : Nat} {S : Nat → Prop} {t : Re} {cs : List Value} {M : List Value} (hr : Row w B M 28) (hb : base ≤ B) (hn : n ≤ maxLen) (hM : M = (List.replicate n cs).flatten) (ht : t.InS (fun k => S k ∧ k ≠ B) w cs) :
    OwnRes w base S (.slice (some ⟨B, 0, none⟩) n n) (List.replicate n (t, cs)) := by
  have h9 := ht.self.nine
  have hf : (List.replicate n (t, cs)).flatMap Prod.snd = (List.replicate n cs).flatten := by
    rw [List.flatMap_def, List.map_replicate]
  have hl : (List.replicate n cs).flatten.length = n * 9 := by
    rw [List.length_flatten, List.map_replicate, List.sum_replicate_nat, h9]
  refine ⟨⟨by rw [hf, hl]; simp, .inr ⟨B, n, M.toArray, by simp, hb, hr, by simp, hn, by simp [hM, hl], by rw [hf, hM, List.length_replicate, ← hl]; exact List.take_length⟩⟩, fun e he => ?_⟩
  obtain rfl := (List.eq_of_mem_replicate he)
  exact ht.step (Nat.le_refl _) fun k hk _ => ⟨⟨hk.1, fun e2 => by simp [Value.ownBlock] at e2; exact hk.2 e2.symm⟩, rfl⟩

theorem Row.setCells {T : TypeId} {B : Nat} : ∀ (vs : List Value) (o : Nat) (w : World) (M : List Value), Row w B M T → ∃ M', Row (w.setCells B o vs) B M' T ∧ M'.length = M.length
  | [], o, w, M, h => ⟨M, h, rfl⟩
  | v :: r, o, w, M, h => by
    obtain ⟨M', h1, h2⟩ := Row.setCells r (o + 1) _ _ (h.set o v)
    exact ⟨M', h1, by simpa using h2⟩
theorem Row.otherCells {T : TypeId} {B B' : Nat} (hn : B ≠ B') : ∀ (vs : List Value) (o : Nat) (w : World) (M : List Value), Row w B M T → Row (w.setCells B' o vs) B M T
  | [], _, _, _, h => h
  | v :: r, o, _, _, h => Row.otherCells hn r (o + 1) _ _ (h.other hn o v)
theorem below_setCells {n : Nat} {B : Nat} {a : World} (hB : n ≤ B) : ∀ (vs : List Value) (o : Nat) (w : World), Below n a w → Below n a (w.setCells B o vs)
  | [], _, _, h => h
  | v :: r, o, _, h => below_setCells hB r (o + 1) _ (h.setCell hB v)
theorem Row.there {w : World} {B : Nat} {M : List Value} {T : TypeId} (h : Row w B M T) (o n : Nat) (hl : o + n ≤ M.length) : w.there B o n := fun j hj => ⟨by rw [h.cell, List.getElem?_eq_getElem (by omega)]; rfl, h.free _⟩
theorem flat_same {n : Nat} {M cs : List Value} (h9 : cs.length = 9) (hl : M.length = n * 9) (h : ∀ i, i < n → ∀ j, j < 9 → M[i * 9 + j]? = cs[j]?) : M = (List.replicate n cs).flatten := by
  have hf : (List.replicate n cs).flatten = (List.replicate n ((Re.mk ⟨0, Cs.none, 0, 0, 0⟩ []), cs)).flatMap Prod.snd := by
    rw [List.flatMap_def, List.map_replicate]
  have hlf : (List.replicate n cs).flatten.length = n * 9 := by
    rw [List.length_flatten, List.map_replicate, List.sum_replicate_nat, h9]
  apply List.ext_getElem? ; intro m
  rcases Nat.lt_or_ge m (n * 9) with hm | hm
  · have hm2 : m = m / 9 * 9 + m % 9 := by omega
    have hi : m / 9 < n := by omega
    rw [hm2, h _ hi _ (Nat.mod_lt _ (by decide)), hf, flat9 _ (fun e he => by rw [List.eq_of_mem_replicate he]; exact h9) (m / 9) ((Re.mk ⟨0, Cs.none, 0, 0, 0⟩ []), cs) _ (by simp [hi]) (Nat.mod_lt _ (by decide))]
  · rw [List.getElem?_eq_none (by omega), List.getElem?_eq_none (by omega)]

theorem Row.set9 {w : World} {B : Nat} {a b c d e f g i j : Value} {T : TypeId} (h : Row w B [a, b, c, d, e, f, g, i, j] T) (a' b' c' d' e' f' g' i' j' : Value) : Row (((((((((w.setCell ⟨B, 0, none⟩ a').setCell ⟨B, 1, none⟩ b').setCell ⟨B, 2, none⟩ c').setCell ⟨B, 3, none⟩ d').setCell ⟨B, 4, none⟩ e').setCell ⟨B, 5, none⟩ f').setCell ⟨B, 6, none⟩ g').setCell ⟨B, 7, none⟩ i').setCell ⟨B, 8, none⟩ j') B [a', b', c', d', e', f', g', i', j'] T :=
  ((((((((h.set 0 _).set 1 _).set 2 _).set 3 _).set 4 _).set 5 _).set 6 _).set 7 _).set 8 _
theorem below9 {n : Nat} {w x : World} {B : Nat} (h : Below n w x) (hB : n ≤ B) (a' b' c' d' e' f' g' i' j' : Value) : Below n w (((((((((x.setCell ⟨B, 0, none⟩ a').setCell ⟨B, 1, none⟩ b').setCell ⟨B, 2, none⟩ c').setCell ⟨B, 3, none⟩ d').setCell ⟨B, 4, none⟩ e').setCell ⟨B, 5, none⟩ f').setCell ⟨B, 6, none⟩ g').setCell ⟨B, 7, none⟩ i').setCell ⟨B, 8, none⟩ j') :=
  ((((((((h.setCell hB _).setCell hB _).setCell hB _).setCell hB _).setCell hB _).setCell hB _).setCell hB _).setCell hB _).setCell hB _
theorem But.set9 {S : List Nat} {w x : World} {B : Nat} (h : But S w x) (hB : B ∈ S ∨ w.heap.size ≤ B) (a' b' c' d' e' f' g' i' j' : Value) : But S w (((((((((x.setCell ⟨B, 0, none⟩ a').setCell ⟨B, 1, none⟩ b').setCell ⟨B, 2, none⟩ c').setCell ⟨B, 3, none⟩ d').setCell ⟨B, 4, none⟩ e').setCell ⟨B, 5, none⟩ f').setCell ⟨B, 6, none⟩ g').setCell ⟨B, 7, none⟩ i').setCell ⟨B, 8, none⟩ j') :=
  ((((((((h.setCell hB _).setCell hB _).setCell hB _).setCell hB _).setCell hB _).setCell hB _).setCell hB _).setCell hB _).setCell hB _
end Go.Proofs.YthnpbopnpdlmnaaDoor
