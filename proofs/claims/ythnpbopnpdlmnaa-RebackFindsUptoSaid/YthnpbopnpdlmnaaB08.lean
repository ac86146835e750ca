/- Trees that a call builds: what is read of a tree whatever the other blocks are; slices of trees of the call's own. -/
import Derived.Test.YthnpbopnpdlmnaaB04
import Derived.Test.YthnpbopnpdlmnaaB07
import Derived.Deep.MidRow
import Derived.Laws.MakeOwn
namespace Go.Proofs.Ythnpbopnpdlmnaa
open Go.RowKit

/-- The cells cs read as the tree in every world that has the blocks of S as w has them. -/
def Re.InS (S : Nat → Prop) (w : World) (t : Re) (cs : List Value) : Prop := ∀ x : World, w.heap.size ≤ x.heap.size → (∀ k, S k → k < w.heap.size → x.heap[k]? = w.heap[k]?) → t.In x cs

theorem Re.InS.self {S : Nat → Prop} {w : World} {t : Re} {cs : List Value} (h : t.InS S w cs) : t.In w cs := h w (Nat.le_refl _) fun _ _ _ => rfl
theorem Re.InS.step {S S' : Nat → Prop} {w w' : World} {t : Re} {cs : List Value} (h : t.InS S w cs) (hs : w.heap.size ≤ w'.heap.size) (hk : ∀ k, S k → k < w.heap.size → S' k ∧ w'.heap[k]? = w.heap[k]?) : t.InS S' w' cs :=
  fun x h1 h2 => h x (Nat.le_trans hs h1) fun k h3 h4 => (h2 k (hk k h3 h4).1 (Nat.lt_of_lt_of_le h4 hs)).trans (hk k h3 h4).2
theorem Re.InS.mono {S S' : Nat → Prop} {w : World} {t : Re} {cs : List Value} (h : t.InS S w cs) (hs : ∀ k, S k → S' k) : t.InS S' w cs := h.step (Nat.le_refl _) fun k hk _ => ⟨hs k hk, rfl⟩
theorem Re.InS.below {S : Nat → Prop} {w w' : World} {t : Re} {cs : List Value} (h : t.InS S w cs) (hb : Below w.heap.size w w') : t.InS S w' cs := h.step hb.size fun k hS hk => ⟨hS, hb.block k hk⟩
theorem Re.InS.but {S : Nat → Prop} {Bs : List Nat} {w w' : World} {t : Re} {cs : List Value} (h : t.InS S w cs) (hb : But Bs w w') (hS : ∀ k, S k → k ∉ Bs) : t.InS S w' cs := h.step hb.size fun k hk hl => ⟨hk, hb.block k hl (hS k hk)⟩

mutual
theorem Re.In.same {w x : World} (hk : ∀ k, k < w.heap.size → x.heap[k]? = w.heap[k]?) : ∀ {t : Re} {cs : List Value}, t.In w cs → t.In x cs
  | .mk p xs, cs, h => by
    rw [Re.In] at h ⊢
    obtain ⟨ad, cap, h1, h2, h3, h4, h5, h6⟩ := h
    exact ⟨ad, cap, h1, h2, h3, h4, h5, Re.AllIn.same hk h6⟩
theorem Re.AllIn.same {w x : World} (hk : ∀ k, k < w.heap.size → x.heap[k]? = w.heap[k]?) : ∀ {xs : List Re} {ad : Option Addr} {k : Nat}, Re.AllIn w xs ad k → Re.AllIn x xs ad k
  | [], ad, k, h => by rw [Re.AllIn]; trivial
  | t :: ts, ad, k, h => by
    rw [Re.AllIn] at h ⊢
    obtain ⟨⟨b, o, cs, h1, h2, h3⟩, h4⟩ := h
    refine ⟨⟨b, o, cs, h1, fun j v hj => ?_, Re.In.same hk h3⟩, Re.AllIn.same hk h4⟩
    have hn : cs ≠ [] := by rintro rfl; simp at hj
    rw [World.cell?_of_block (hk b (h2.block hn))]
    exact h2 j v hj
end
theorem Re.In.all {w : World} {t : Re} {cs : List Value} (h : t.In w cs) : t.InS (fun _ => True) w cs := fun _ _ h2 => h.same fun k hk => h2 k trivial hk

/-- The slice value v owns the trees of L; their own blocks lie in S, none of them the slice's. -/
def OwnRes (w : World) (base : Nat) (S : Nat → Prop) (v : Value) (L : List (Re × List Value)) : Prop :=
  w.ownsRow base 28 9 v L.length (L.flatMap Prod.snd) ∧ ∀ e, e ∈ L → e.1.InS (fun k => S k ∧ v.ownBlock ≠ some k) w e.2

theorem OwnRes.nil (w : World) (base : Nat) (S : Nat → Prop) : OwnRes w base S (.slice none 0 0) [] := ⟨World.ownsRow_nil _ _ _ _, fun _ h => by cases h⟩
theorem OwnRes.lt {w : World} {base : Nat} {S : Nat → Prop} {v : Value} {L : List (Re × List Value)} (h : OwnRes w base S v L) : ∀ g, v.ownBlock = some g → base ≤ g ∧ g < w.heap.size := World.ownsRow.lt h.1
theorem OwnRes.below {w w' : World} {base : Nat} {S : Nat → Prop} {v : Value} {L : List (Re × List Value)} (h : OwnRes w base S v L) (hb : Below w.heap.size w w') : OwnRes w' base S v L :=
  ⟨World.ownsRow.kept h.1 (row := none) ⟨hb.os, hb.tape, hb.output, hb.size, fun j hj _ => hb.block j hj⟩ (by
    cases hv : v.ownBlock with
    | none => exact .inl rfl
    | some g => exact .inr (fun e => by cases e)), fun e he => (h.2 e he).below hb⟩
/-- Other blocks turn: not the slice's own, and none of S. -/
theorem OwnRes.but {w w' : World} {base M : Nat} {S : Nat → Prop} {v : Value} {L : List (Re × List Value)} (h : OwnRes w base S v L) (hb : But [M] w w') (hv : ∀ g, v.ownBlock = some g → g ≠ M) (hM : ¬ S M) : OwnRes w' base S v L :=
  ⟨World.ownsRow.kept h.1 (row := some M) ⟨hb.os, hb.tape, hb.output, hb.size, fun j hj hn => hb.block j hj (by simp; intro e; exact hn (by rw [e]))⟩ (by
    cases hg : v.ownBlock with
    | none => exact .inl rfl
    | some g => exact .inr (fun e => hv g hg (Option.some.inj e))), fun e he => (h.2 e he).but hb (fun k hk => by simp; rintro rfl; exact hM hk.1)⟩
theorem OwnRes.alloc {w : World} {base : Nat} {S : Nat → Prop} {v : Value} {L : List (Re × List Value)} (h : OwnRes w base S v L) (o : Obj) : OwnRes (w.alloc o) base S v L :=
  h.below ((Below.refl _ w).alloc (Nat.le_refl _) o)
theorem OwnRes.mono {w : World} {base : Nat} {S S' : Nat → Prop} {v : Value} {L : List (Re × List Value)} (h : OwnRes w base S v L) (hs : ∀ k, S k → S' k) : OwnRes w base S' v L := ⟨h.1, fun e he => (h.2 e he).mono fun k hk => ⟨hs k hk.1, hk.2⟩⟩
theorem OwnRes.form {w : World} {base : Nat} {S : Nat → Prop} {v : Value} {L : List (Re × List Value)} (h : OwnRes w base S v L) : ∃ a c, v = .slice a L.length c := ownsRow_shape h.1
/-- What an append leaves behind. -/
theorem OwnRes.push {w w' : World} {base : Nat} {S : Nat → Prop} {a a' : Option Addr} {n n' c c' : Nat} {L : List (Re × List Value)} {t : Re} {cs : List Value} (h : OwnRes w base S (.slice a n c) L) (hn : n' = L.length + 1)
    (ho : w'.ownsRow base 28 9 (.slice a' n' c') n' (L.flatMap Prod.snd ++ cs)) (hg : w.grownBy w' (Value.slice a n c).ownBlock) (hnew : ∀ g, (Value.slice a' n' c').ownBlock = some g → (Value.slice a n c).ownBlock = some g ∨ w.heap.size ≤ g)
    (ht : t.InS (fun k => S k ∧ (Value.slice a n c).ownBlock ≠ some k) w cs) : OwnRes w' base S (.slice a' n' c') (L ++ [(t, cs)]) := by
  subst hn
  refine ⟨by simpa [List.flatMap_append] using ho, fun e he => ?_⟩
  have key : ∀ (t : Re) (cs : List Value), t.InS (fun k => S k ∧ (Value.slice a n c).ownBlock ≠ some k) w cs → t.InS (fun k => S k ∧ (Value.slice a' (L.length + 1) c').ownBlock ≠ some k) w' cs := by
    intro t cs hh
    refine hh.step hg.size fun k hk hl => ⟨⟨hk.1, fun e2 => ?_⟩, hg.block k hl (fun e2 => hk.2 e2.symm)⟩
    rcases hnew k e2 with h3 | h3
    · exact hk.2 h3
    · omega
  rcases List.mem_append.1 he with he | he
  · exact key _ _ (h.2 e he)
  · rw [List.mem_singleton.1 he]; exact key _ _ ht

theorem flat9 : ∀ (L : List (Re × List Value)) (_ : ∀ e, e ∈ L → e.2.length = 9) (i : Nat) (e : Re × List Value) (j : Nat), L[i]? = some e → j < 9 → (L.flatMap Prod.snd)[i * 9 + j]? = e.2[j]?
  | [], _, i, e, j, h, _ => by simp at h
  | a :: L, hl, i, e, j, h, hj => by
    have ha := hl a (by simp)
    cases i with
    | zero =>
      simp at h
      subst h
      rw [List.flatMap_cons, Nat.zero_mul, Nat.zero_add, List.getElem?_append_left (by omega)]
    | succ i =>
      rw [List.flatMap_cons, List.getElem?_append_right (by omega)]
      have : (i + 1) * 9 + j - a.2.length = i * 9 + j := by omega
      rw [this]
      exact flat9 L (fun e he => hl e (by simp [he])) i e j (by simpa using h) hj

theorem AllIn_of (x : World) (g : Nat) : ∀ (L : List (Re × List Value)) (k : Nat), (∀ (i : Nat) (e : Re × List Value), L[i]? = some e → CellsAt x g (k + i * 9) e.2 ∧ e.1.In x e.2) → Re.AllIn x (L.map Prod.fst) (some ⟨g, 0, none⟩) k
  | [], k, _ => by simp [Re.AllIn]
  | e :: L, k, h => by
    rw [List.map_cons, Re.AllIn]
    have h0 := h 0 e rfl
    exact ⟨⟨g, 0, e.2, rfl, by simpa using h0.1, h0.2⟩, AllIn_of x g L (k + 9) fun i e' hi => by
      have h1 := h (i + 1) e' (by simpa using hi)
      exact ⟨by rw [show k + 9 + i * 9 = k + (i + 1) * 9 by omega]; exact h1.1, h1.2⟩⟩

/-- The node over what is owned. -/
theorem OwnRes.node {w : World} {base : Nat} {S : Nat → Prop} {v : Value} {L : List (Re × List Value)} (h : OwnRes w base S v L) (hb : ∀ k, base ≤ k → S k) (p : Pay) (hp : p.wf) : (Re.mk p (L.map Prod.fst)).InS S w (p.cells v) := by
  intro x h1 h2
  rw [Re.In]
  have hlen : (L.map Prod.fst).length = L.length := by simp
  have hel : ∀ e, e ∈ L → e.1.In x e.2 := fun e he => h.2 e he x h1 fun k hk hl => h2 k hk.1 hl
  rcases h.1.2 with ⟨rfl, h0⟩ | ⟨g, cap, cur, rfl, hg, hcur, hnc, hcm, hsz, hx⟩
  · have : L = [] := List.length_eq_zero_iff.1 h0
    subst this
    exact ⟨none, 0, by simp, hp, Nat.le_refl _, Nat.zero_le _, fun _ => rfl, by simp [Re.AllIn]⟩
  · refine ⟨some ⟨g, 0, none⟩, cap, by rw [hlen], hp, by rw [hlen]; exact hnc, hcm, fun e => (by cases e), AllIn_of x g L 0 fun i e hi => ⟨fun j u hj => ?_, hel e (List.mem_of_getElem? hi)⟩⟩
    have h9 : ∀ e, e ∈ L → e.2.length = 9 := fun e he => (hel e he).nine
    have hj9 : j < 9 := by
      have := h9 e (List.mem_of_getElem? hi)
      have := (List.getElem?_eq_some_iff.1 hj).1
      omega
    have hil : i < L.length := (List.getElem?_eq_some_iff.1 hi).1
    have hgl : g < w.heap.size := (h.lt g rfl).2
    rw [World.cell?_of_block (h2 g (hb g hg) hgl), Nat.zero_add, World.ownsRow.cellAt h.1 (i * 9 + j) (by omega), flat9 L h9 i e j hi hj9, hj]
theorem Re.cells_shape {w : World} {t : Re} {cs : List Value} (h : t.In w cs) : ∃ (p : Pay) (ad : Option Addr) (n c : Nat), cs = [.int .i64 p.op, .int .u64 p.set.a, .int .u64 p.set.b, .int .u64 p.set.c, .int .u64 p.set.d, .int .i64 p.lo, .int .i64 p.hi, .int .i64 p.gr, .slice ad n c] := by
  cases t with
  | mk p xs => rw [Re.In] at h; obtain ⟨ad, cap, rfl, _⟩ := h; exact ⟨p, ad, _, cap, rfl⟩
/-- A row of the same tree, n times. -/
theorem OwnRes.same {w : World} {base n B : Nat} {S : Nat → Prop} {t : Re} {cs : List Value} {M : List Value} (hr : Row w B M 28) (hb : base ≤ B) (hn : n ≤ maxLen) (hM : M = (List.replicate n cs).flatten) (ht : t.InS (fun k => S k ∧ k ≠ B) w cs) :
    OwnRes w base S (.slice (some ⟨B, 0, none⟩) n n) (List.replicate n (t, cs)) := by
  have h9 := ht.self.nine
  have hf : (List.replicate n (t, cs)).flatMap Prod.snd = (List.replicate n cs).flatten := by
    rw [List.flatMap_def, List.map_replicate]
  have hl : (List.replicate n cs).flatten.length = n * 9 := by
    rw [List.length_flatten, List.map_replicate, List.sum_replicate_nat, h9]
  refine ⟨⟨by rw [hf, hl]; simp, .inr ⟨B, n, M.toArray, by simp, hb, hr, by simp, hn, by simp [hM, hl], by rw [hf, hM, List.length_replicate, ← hl]; exact List.take_length⟩⟩, fun e he => ?_⟩
  obtain rfl := (List.eq_of_mem_replicate he)
  exact ht.step (Nat.le_refl _) fun k hk _ => ⟨⟨hk.1, fun e2 => by simp [Value.ownBlock] at e2; exact hk.2 e2.symm⟩, rfl⟩

theorem Row.setCells {T : TypeId} {B : Nat} : ∀ (vs : List Value) (o : Nat) (w : World) (M : List Value), Row w B M T → ∃ M', Row (w.setCells B o vs) B M' T ∧ M'.length = M.length
  | [], o, w, M, h => ⟨M, h, rfl⟩
  | v :: r, o, w, M, h => by
    obtain ⟨M', h1, h2⟩ := Row.setCells r (o + 1) _ _ (h.set o v)
    exact ⟨M', h1, by simpa using h2⟩
theorem But.setCells {S : List Nat} {B : Nat} {a : World} (hB : B ∈ S ∨ a.heap.size ≤ B) : ∀ (vs : List Value) (o : Nat) (w : World), But S a w → But S a (w.setCells B o vs)
  | [], _, _, h => h
  | v :: r, o, _, h => But.setCells hB r (o + 1) _ (h.setCell hB v)
theorem Row.there {w : World} {B : Nat} {M : List Value} {T : TypeId} (h : Row w B M T) (o n : Nat) (hl : o + n ≤ M.length) : w.there B o n := fun j hj => ⟨by rw [h.cell, List.getElem?_eq_getElem (by omega)]; rfl, h.free _⟩
theorem Row.full {w : World} {B : Nat} {M M' : List Value} {T : TypeId} (h : Row w B M T) (hl : M.length = M'.length) (hr : w.rangeAt B 0 M') : M = M' := by
  apply List.ext_getElem? ; intro j
  rcases Nat.lt_or_ge j M'.length with hj | hj
  · have h1 := hr j _ (List.getElem?_eq_getElem hj)
    rw [Nat.zero_add, h.cell] at h1
    rw [h1, List.getElem?_eq_getElem hj]
  · rw [List.getElem?_eq_none (by omega), List.getElem?_eq_none hj]
/-- The whole block anew. -/
theorem Row.anew {w : World} {B : Nat} {M M' : List Value} {T : TypeId} (h : Row w B M T) (hl : M.length = M'.length) : Row (w.setCells B 0 M') B M' T := by
  obtain ⟨M2, h1, h2⟩ := h.setCells M' 0
  have h3 := World.rangeAt_setCells_same w B 0 M' (h.there 0 M'.length (by omega))
  rwa [h1.full (by omega) h3] at h1
theorem Row.set9 {w : World} {B : Nat} {a b c d e f g i j : Value} {T : TypeId} (h : Row w B [a, b, c, d, e, f, g, i, j] T) (a' b' c' d' e' f' g' i' j' : Value) : Row (((((((((w.setCell ⟨B, 0, none⟩ a').setCell ⟨B, 1, none⟩ b').setCell ⟨B, 2, none⟩ c').setCell ⟨B, 3, none⟩ d').setCell ⟨B, 4, none⟩ e').setCell ⟨B, 5, none⟩ f').setCell ⟨B, 6, none⟩ g').setCell ⟨B, 7, none⟩ i').setCell ⟨B, 8, none⟩ j') B [a', b', c', d', e', f', g', i', j'] T :=
  ((((((((h.set 0 _).set 1 _).set 2 _).set 3 _).set 4 _).set 5 _).set 6 _).set 7 _).set 8 _
theorem below9 {n : Nat} {w x : World} {B : Nat} (h : Below n w x) (hB : n ≤ B) (a' b' c' d' e' f' g' i' j' : Value) : Below n w (((((((((x.setCell ⟨B, 0, none⟩ a').setCell ⟨B, 1, none⟩ b').setCell ⟨B, 2, none⟩ c').setCell ⟨B, 3, none⟩ d').setCell ⟨B, 4, none⟩ e').setCell ⟨B, 5, none⟩ f').setCell ⟨B, 6, none⟩ g').setCell ⟨B, 7, none⟩ i').setCell ⟨B, 8, none⟩ j') :=
  ((((((((h.setCell hB _).setCell hB _).setCell hB _).setCell hB _).setCell hB _).setCell hB _).setCell hB _).setCell hB _).setCell hB _
theorem But.set9 {S : List Nat} {w x : World} {B : Nat} (h : But S w x) (hB : B ∈ S ∨ w.heap.size ≤ B) (a' b' c' d' e' f' g' i' j' : Value) : But S w (((((((((x.setCell ⟨B, 0, none⟩ a').setCell ⟨B, 1, none⟩ b').setCell ⟨B, 2, none⟩ c').setCell ⟨B, 3, none⟩ d').setCell ⟨B, 4, none⟩ e').setCell ⟨B, 5, none⟩ f').setCell ⟨B, 6, none⟩ g').setCell ⟨B, 7, none⟩ i').setCell ⟨B, 8, none⟩ j') :=
  ((((((((h.setCell hB _).setCell hB _).setCell hB _).setCell hB _).setCell hB _).setCell hB _).setCell hB _).setCell hB _).setCell hB _
end Go.Proofs.Ythnpbopnpdlmnaa

/- The reference of the parses: spans without those of the groups within a tree. -/
namespace Go.Proofs.Ythnpbopnpdlmnaa
open Go.RowKit
attribute [local go_sem] gives givesUpon

theorem Re.oks_get9 {N : Nat} : ∀ {xs : List Re} (_ : Re.oks N xs) (k : Nat) (h : k < xs.length), xs[k].ok N
  | x :: xs, h, 0, _ => by rw [Re.oks] at h; exact h.1
  | x :: xs, h, k + 1, hk => by rw [Re.oks] at h; exact Re.oks_get9 h.2 k (by simpa using hk)
theorem withinAll_app9 : ∀ a b : List Re, withinAll (a ++ b) = withinAll a ++ withinAll b
  | [], b => by simp [withinAll]
  | x :: a, b => by simp [withinAll, withinAll_app9 a b]
theorem withinAll_step (xs : List Re) (k : Nat) (h : k < xs.length) : withinAll (xs.take (k + 1)) = withinAll (xs.take k) ++ withinOf xs[k] := by
  rw [List.take_add_one, List.getElem?_eq_getElem h, withinAll_app9]
  simp [withinAll]
mutual
theorem within_pos {N : Nat} : ∀ t : Re, t.ok N → ∀ g, g ∈ withinOf t → 1 ≤ g ∧ g ≤ N
  | .mk p xs, h, g, hg => by
    rw [Re.ok] at h
    rw [withinOf] at hg
    rcases List.mem_append.1 hg with hg | hg
    · split at hg
      · rename_i h6
        have := h.2.2.2.1 (.inl h6)
        have e := List.mem_singleton.1 hg
        omega
      · cases hg
    · exact withins_pos xs h.2.2.2.2 g hg
theorem withins_pos {N : Nat} : ∀ xs : List Re, Re.oks N xs → ∀ g, g ∈ withinAll xs → 1 ≤ g ∧ g ≤ N
  | [], _, g, hg => by rw [withinAll] at hg; cases hg
  | x :: xs, h, g, hg => by
    rw [Re.oks] at h
    rw [withinAll] at hg
    rcases List.mem_append.1 hg with hg | hg
    · exact within_pos x h.1 g hg
    · exact withins_pos xs h.2 g hg
end
theorem unset_get : ∀ (gs : List Nat) (sp : Spans) (k : Nat) (x : Int × Int), (∀ g, g ∈ gs → 1 ≤ g) → sp[k]? = some x → (unset sp gs)[k]? = some (if k + 1 ∈ gs then (-1, -1) else x)
  | [], sp, k, x, _, h => by simpa [unset] using h
  | g :: gs, sp, k, x, hg, h => by
    have hg1 := hg g (by simp)
    show (unset (sp.set (g - 1) (-1, -1)) gs)[k]? = _
    have hk : k < sp.length := (List.getElem?_eq_some_iff.1 h).1
    by_cases he : k = g - 1
    · subst he
      rw [unset_get gs _ (g - 1) (-1, -1) (fun g hg' => hg g (by simp [hg'])) (List.getElem?_set_self hk)]
      have : g - 1 + 1 = g := by omega
      simp [this]
    · rw [unset_get gs _ k x (fun g hg' => hg g (by simp [hg'])) (by rw [List.getElem?_set_ne (fun e => he e.symm), h])]
      have : k + 1 ≠ g := by omega
      simp [this]
theorem unset_len (gs : List Nat) : ∀ sp : Spans, (unset sp gs).length = sp.length := by
  induction gs with
  | nil => intro sp; rfl
  | cons g gs ih => intro sp; show (unset (sp.set (g - 1) (-1, -1)) gs).length = _; rw [ih]; simp

set_option maxRecDepth 100000 in
set_option maxHeartbeats 8000000 in
theorem rinner_any (wb : World) (N : Nat) (g : Nat) (t : Re) : ∀ (w : World) (cs : List Value), t.In wb cs → t.ok N → Below wb.heap.size wb w →
    Calls Try.prog 118 #[.agg cs.toArray, .int .i64 g] w fun e w' => e = .returned (.bool (decide (g ∈ withinOf t))) ∧ Below w.heap.size w w' := by
  induction t using Re.ind with
  | h p xs ih =>
    intro w cs hIn hok hbw
    rw [Re.In] at hIn
    obtain ⟨ad, cap, rfl, hwf, hlc, hcm, hnil, hall⟩ := hIn
    rw [Re.ok] at hok
    obtain ⟨-, -, -, hgr, hoks⟩ := hok
    have hml : xs.length ≤ 9223372036854775807 := by unfold maxLen at hcm; omega
    have HIH := hid ih
    have HAL := hid hall
    have HBW := hid hbw
    have HOK := hid hoks
    clear ih hall hwf hbw hoks hcm hlc hnil
    simp only [Pay.cells]
    have q0 := (Row.new (w := w) (cs := [.int .i64 p.op, .int .u64 p.set.a, .int .u64 p.set.b, .int .u64 p.set.c, .int .u64 p.set.d, .int .i64 p.lo, .int .i64 p.hi, .int .i64 p.gr, .slice ad xs.length cap]) (T := 28) rfl).c9
    have HB := hid ((Below.refl w.heap.size w).alloc (Nat.le_refl _) (.cells #[.int .i64 p.op, .int .u64 p.set.a, .int .u64 p.set.b, .int .u64 p.set.c, .int .u64 p.set.d, .int .i64 p.lo, .int .i64 p.hi, .int .i64 p.gr, .slice ad xs.length cap] 28))
    have HRW : Hid (Row (w.alloc (.cells #[.int .i64 p.op, .int .u64 p.set.a, .int .u64 p.set.b, .int .u64 p.set.c, .int .u64 p.set.d, .int .i64 p.lo, .int .i64 p.hi, .int .i64 p.gr, .slice ad xs.length cap] 28)) w.heap.size [.int .i64 p.op, .int .u64 p.set.a, .int .u64 p.set.b, .int .u64 p.set.c, .int .u64 p.set.d, .int .i64 p.lo, .int .i64 p.hi, .int .i64 p.gr, .slice ad xs.length cap] 28) := Row.new rfl
    by_cases h6 : p.op = 6 ∧ p.gr = g
    · have d6 : (p.op == 6) = true := by simp [h6.1]
      have d7 : (p.gr == (g : Int)) = true := by simp [h6.2]
      have HM : Hid (g ∈ withinOf (.mk p xs)) := by show _ ∈ _; rw [withinOf, if_pos h6.1, h6.2]; simp
      clear h6 hgr
      go_enter Try.func118, Try.ntmps118
      go_wp2_with fail
      go_ret
      exact ⟨ret_bool (decide_eq_true HM.out).symm, HB.out⟩
    · have HM : Hid (g ∈ withinOf (.mk p xs) ↔ g ∈ withinAll xs) := by
        show _ ↔ _
        rw [withinOf, List.mem_append]
        constructor
        · rintro (h | h)
          · split at h
            · rename_i h7
              have := hgr (.inl h7)
              have e := List.mem_singleton.1 h
              exact absurd ⟨h7, by omega⟩ h6
            · cases h
          · exact h
        · exact .inr
      have hd : (p.op == 6) = false ∨ ((p.op == 6) = true ∧ (p.gr == (g : Int)) = false) := by
        by_cases h7 : p.op = 6
        · right; simp [h7]; exact fun e => h6 ⟨h7, e⟩
        · left; simp [h7]
      clear h6 hgr
      rcases hd with hd | ⟨hd, hd2⟩
      all_goals
        go_enter Try.func118, Try.ntmps118
        go_wp2_with fail
        go_loopw [5] (fun i wr => ∃ (k : Nat), k ≤ xs.length ∧ i = .int .i64 k ∧ Hid (g ∉ withinAll (xs.take k) ∧ Row wr w.heap.size [.int .i64 p.op, .int .u64 p.set.a, .int .u64 p.set.b, .int .u64 p.set.c, .int .u64 p.set.d, .int .i64 p.lo, .int .i64 p.hi, .int .i64 p.gr, .slice ad xs.length cap] 28 ∧ Below w.heap.size w wr)) (fun i _ => xs.length - (intOf i).toNat)
        case atStart => exact ⟨0, Nat.zero_le _, rfl, by simp [withinAll], HRW.out, HB.out⟩
        case round =>
          obtain ⟨k, hk, rfl, HX⟩ := hrel
          have q1 := HX.out.2.1.c9
          have hB := HX.out.2.1.lt
          have HBL : Hid (Below wb.heap.size wb wr) := HBW.out.trans (HX.out.2.2.mono HBW.out.size)
          by_cases hlt : k < xs.length
          · obtain ⟨b, o, p', ad1, n1, cap1, e3, HC, HI0, hbb⟩ := HAL.out.kid HBL.out k hlt
            subst e3
            have hltI : (k : Int) < xs.length := by omega
            have hwk : IntKind.i64.wrap ((k : Int) + 1) = ((k + 1 : Nat) : Int) := by rw [IntKind.wrap_i64]; omega
            go_wp2_with (first | (with_reducible (refine wpList_load_agg rfl 28 _ rfl b (o + (k * 9)) rfl _ _ HC.out Try.underlying28 rfl (size_re9 _ _ _ _ _ _ _ _ _) ?_)))
            refine (HIH.out xs[k] (List.getElem_mem _) _ _ HI0.out (Re.oks_get9 HOK.out k hlt) HBL.out).mono ?_
            rintro e w2 ⟨rfl, hb2⟩
            have HW2 := hid (⟨HX.out.2.1.below hb2 HX.out.2.1.lt, HX.out.2.2.trans (hb2.mono HX.out.2.2.size)⟩ : _ ∧ _)
            have HST := hid (withinAll_step xs k hlt)
            clear hb2 q1
            by_cases hm : g ∈ withinOf xs[k]
            · have HMM : Hid (g ∈ withinOf (.mk p xs)) := by
                show _ ∈ _
                rw [HM.out, ← List.take_append_drop (k + 1) xs, withinAll_app9, HST.out]
                simp [hm]
              rw [decide_eq_true hm]
              clear hm
              go_wp2_with fail
              go_ret
              exact ⟨ret_bool (decide_eq_true HMM.out).symm, HW2.out.2⟩
            · have HMM : Hid (g ∉ withinAll (xs.take (k + 1))) := by
                show ¬ _
                rw [HST.out, List.mem_append]
                rintro (h | h)
                · exact HX.out.1 h
                · exact hm h
              rw [decide_eq_false hm]
              clear hm
              go_wp2_with fail
              refine ⟨⟨k + 1, by omega, by go_num, HMM.out, HW2.out⟩, ?_⟩
              simp [intOf] <;> omega
          · obtain rfl : k = xs.length := by omega
            go_wp2_with fail
            go_ret
            have h9 := HX.out.1
            rw [List.take_length, ← HM.out] at h9
            exact ⟨ret_bool (decide_eq_false h9).symm, HX.out.2.2⟩
end Go.Proofs.Ythnpbopnpdlmnaa
