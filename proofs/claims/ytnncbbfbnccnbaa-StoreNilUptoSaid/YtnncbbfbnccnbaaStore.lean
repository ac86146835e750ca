/- The state of a store, and what it means that a store lies in memory. -/
import Derived.Test.YtnncbbfbnccnbaaTxt
import Derived.Test.YtnncbbfbnccnbaaProg
import Derived.Maps.OwnSet
import Derived.Maps.RangeWalk
import Derived.Maps.Ext
import Derived.Maps.Views
namespace Go.Proofs.Ytnncbbfbnccnbaa
open Go.RowKit
open Go.Maps (Keyed)

/-- A file: its name, its block, the slice of its bytes, the bytes, and how many are synced. -/
structure Ent where
  name : List UInt8
  blk : Nat
  val : Value
  text : List UInt8
  sync : Int
structure St where
  limit : Int
  used : Int
  peak : Int
  mp : Nat
  ents : List Ent
  crash : Bool
  count : Int
def St.cells (s : St) : List Value := [.int .i64 s.limit, .int .i64 s.used, .int .i64 s.peak, .map (some s.mp), .bool s.crash, .int .i64 s.count]
/-- How a pointer to a block reads in a map's datum. -/
def ptrElem : Value → Option (DataW Unit × List MemPlace)
  | .pointer none => some (.nil, [])
  | .pointer (some a) => if a.off = 0 ∧ a.spot = none then some (.lit (.int .i64 a.block), []) else none
  | _ => none
theorem ptrElem_mk (g : Nat) : ptrElem (.pointer (some ⟨g, 0, none⟩)) = some (.lit (.int .i64 g), []) := by simp [ptrElem]
theorem ptrElem_nil : ptrElem (.pointer none) = some (.nil, []) := rfl
theorem ptrElem_inv {v : Value} {g : Nat} {ps : List MemPlace} (h : ptrElem v = some (.lit (.int .i64 g), ps)) : v = .pointer (some ⟨g, 0, none⟩) := by
  unfold ptrElem at h
  split at h
  · cases h
  · rename_i a
    split at h
    · rename_i ha
      simp only [Option.some.injEq, Prod.mk.injEq, DataW.lit.injEq, Lit.int.injEq] at h
      obtain ⟨b, o, s⟩ := a
      simp only at ha h
      obtain ⟨rfl, rfl⟩ := ha
      have : b = g := by have := h.1.2; omega
      rw [this]
    · cases h
  · cases h
theorem ptrElem_nil_inv {v : Value} {ps : List MemPlace} (h : ptrElem v = some (.nil, ps)) : v = .pointer none := by
  unfold ptrElem at h
  split at h
  · rfl
  · split at h
    · cases h
    · cases h
  · cases h
def Ent.item (f : Ent) : Lit × DataW Unit := (.string f.name, .lit (.int .i64 f.blk))
def toD (l : List Ent) : DataW Unit := .map (l.map Ent.item)
theorem strK : Keyed Try.prog 9 := Maps.string_keyed Try.underlying9
def Ent.own (f : Ent) : List Nat := f.blk :: (match f.val.ownBlock with | some g => [g] | none => [])
def St.own (s : St) (B : Nat) : List Nat := B :: s.mp :: s.ents.flatMap Ent.own

structure Ent.At (w : World) (base : Nat) (f : Ent) : Prop where
  row : Row w f.blk [f.val, .int .i64 f.sync] 63
  txt : Txt 5 w f.val f.text
  lo : base ≤ f.blk
  tlo : ∀ g, f.val.ownBlock = some g → base ≤ g
def Ent.apart (f f' : Ent) : Prop := f.blk ≠ f'.blk ∧ ∀ g, f.val.ownBlock = some g → f'.val.ownBlock ≠ some g
structure St.At (w : World) (B base : Nat) (s : St) : Prop where
  row : Row w B s.cells 47
  map : w.ownsMap Try.prog 9 ptrElem s.mp s.ents.length (toD s.ents)
  ents : ∀ f, f ∈ s.ents → f.At w base
  apart : s.ents.Pairwise Ent.apart
  lo : base ≤ B ∧ base ≤ s.mp

theorem Row.same_type {w : World} {B : Nat} {a b : List Value} {T U : TypeId} (h : Row w B a T) (k : Row w B b U) : T = U := by
  unfold Row at h k
  rw [h] at k
  simp only [Option.some.injEq, Obj.cells.injEq] at k
  exact k.2.1
theorem Txt.ne_row {w : World} {e : TypeId} {v : Value} {bs : List UInt8} (h : Txt e w v bs) {B : Nat} {cs : List Value} {T : TypeId} (k : Row w B cs T) (hne : T ≠ e) : ∀ g, v.ownBlock = some g → g ≠ B := by
  intro g hg e1
  subst e1
  rcases h with ⟨rfl, rfl⟩ | ⟨g', cap, cur, rfl, h1, -⟩
  · cases hg
  · have e2 : g' = g := by simpa [Value.ownBlock] using hg
    subst e2
    unfold Row at k
    rw [h1] at k
    simp only [Option.some.injEq, Obj.cells.injEq] at k
    exact hne k.2.1.symm
theorem map_ne_row {w : World} {n M : Nat} {D : DataW Unit} (h : w.ownsMap Try.prog 9 ptrElem M n D) {B : Nat} {cs : List Value} {T : TypeId} (k : Row w B cs T) : M ≠ B := by
  intro e
  subst e
  obtain ⟨es, c, hb, -⟩ := h
  unfold Row at k
  rw [hb] at k
  cases k
theorem Txt.ne_map {w : World} {e : TypeId} {v : Value} {bs : List UInt8} (h : Txt e w v bs) {n M : Nat} {D : DataW Unit} (k : w.ownsMap Try.prog 9 ptrElem M n D) : ∀ g, v.ownBlock = some g → g ≠ M := by
  intro g hg e1
  subst e1
  obtain ⟨es, c, hb, -⟩ := k
  rcases h with ⟨rfl, rfl⟩ | ⟨g', cap, cur, rfl, h1, -⟩
  · cases hg
  · have e2 : g' = g := by simpa [Value.ownBlock] using hg
    subst e2
    rw [hb] at h1
    cases h1
theorem map_block {w w' : World} {n M : Nat} {D : DataW Unit} (h : w.ownsMap Try.prog 9 ptrElem M n D) (hb : w'.heap[M]? = w.heap[M]?) : w'.ownsMap Try.prog 9 ptrElem M n D := by
  obtain ⟨es, c, h1, h2⟩ := h
  exact ⟨es, c, hb.trans h1, h2⟩

theorem Ent.At.blocks {w : World} {base : Nat} {f : Ent} (h : f.At w base) : ∀ k, k ∈ f.own → base ≤ k ∧ k < w.heap.size := by
  intro k hk
  unfold Ent.own at hk
  rcases List.mem_cons.1 hk with rfl | hk
  · exact ⟨h.lo, h.row.lt⟩
  · cases hv : f.val.ownBlock with
    | none => rw [hv] at hk; cases hk
    | some g =>
      rw [hv] at hk
      obtain rfl : k = g := by simpa using hk
      exact ⟨h.tlo k hv, h.txt.lt k hv⟩
theorem Ent.At.kept {w w' : World} {base : Nat} {f : Ent} (h : f.At w base) (hk : ∀ k, k ∈ f.own → w'.heap[k]? = w.heap[k]?) : f.At w' base := by
  refine ⟨(hk f.blk (by unfold Ent.own; simp)).trans h.row, h.txt.kept fun g hg => hk g ?_, h.lo, h.tlo⟩
  unfold Ent.own
  rw [hg]
  simp
theorem St.At.blocks {w : World} {B base : Nat} {s : St} (h : s.At w B base) : ∀ k, k ∈ s.own B → base ≤ k ∧ k < w.heap.size := by
  intro k hk
  unfold St.own at hk
  rcases List.mem_cons.1 hk with rfl | hk
  · exact ⟨h.lo.1, h.row.lt⟩
  rcases List.mem_cons.1 hk with rfl | hk
  · exact ⟨h.lo.2, h.map.lt⟩
  · obtain ⟨f, hf, hk⟩ := List.mem_flatMap.1 hk
    exact (h.ents f hf).blocks k hk
theorem St.At.kept {w w' : World} {B base : Nat} {s : St} (h : s.At w B base) (hk : ∀ k, k ∈ s.own B → w'.heap[k]? = w.heap[k]?) : s.At w' B base := by
  refine ⟨(hk B (by unfold St.own; simp)).trans h.row, map_block h.map (hk _ (by unfold St.own; simp)), fun f hf => (h.ents f hf).kept fun k hkf => hk k ?_, h.apart, h.lo⟩
  unfold St.own
  simp only [List.mem_cons, List.mem_flatMap]
  exact .inr (.inr ⟨f, hf, hkf⟩)
theorem St.At.below {w w' : World} {B base n : Nat} {s : St} (h : s.At w B base) (hb : Below n w w') (hn : w.heap.size ≤ n) : s.At w' B base := h.kept fun k hk => hb.block k (by have := h.blocks k hk; omega)
theorem St.At.but {w w' : World} {B base : Nat} {s : St} {S : List Nat} (h : s.At w B base) (hb : But S w w') (hS : ∀ k, k ∈ s.own B → k ∉ S) : s.At w' B base := h.kept fun k hk => hb.block k (h.blocks k hk).2 (hS k hk)

/-- What a step of a store leaves: the store's new state; other blocks are as they were. -/
structure Step (base B : Nat) (s s' : St) (w w' : World) : Prop where
  at' : s'.At w' B base
  but : But (s.own B) w w'
  own : ∀ k, k ∈ s'.own B → k ∈ s.own B ∨ w.heap.size ≤ k
theorem Step.refl {base B : Nat} {s : St} {w : World} (h : s.At w B base) : Step base B s s w w := ⟨h, But.refl _ _, fun _ hk => .inl hk⟩
theorem Step.trans {base B : Nat} {s s' s'' : St} {w w' w'' : World} (h : Step base B s s' w w') (k : Step base B s' s'' w' w'') : Step base B s s'' w w'' :=
  ⟨k.at', h.but.later k.but h.own, fun i hi => by
    rcases k.own i hi with h1 | h1
    · exact h.own i h1
    · exact .inr (Nat.le_trans h.but.size h1)⟩
theorem Step.below {base B n : Nat} {s s' : St} {w w' : World} (h : Step base B s s' w w') (ha : s.At w B base) (hn : n ≤ base) (hw : n ≤ w.heap.size) : Below n w w' := h.but.below hw fun k hk => by have := ha.blocks k hk; omega
/-- Behind a step something happens in new blocks alone. -/
theorem Step.more {base B n : Nat} {s s' : St} {w w' w'' : World} (h : Step base B s s' w w') (hb : Below n w' w'') (hn : w'.heap.size ≤ n) : Step base B s s' w w'' :=
  h.trans ⟨h.at'.below hb hn, ⟨hb.os, hb.tape, hb.output, hb.size, fun k hk _ => hb.block k (by omega)⟩, fun _ hk => .inl hk⟩
/-- New cells of the store's own block. -/
theorem St.At.fields {w w' : World} {B base : Nat} {s s' : St} (h : s.At w B base) (hb : But [B] w w') (hr : Row w' B s'.cells 47) (hm : s'.mp = s.mp) (he : s'.ents = s.ents) : Step base B s s' w w' := by
  have hne : ∀ k, k ∈ s.own B → k ≠ B → w'.heap[k]? = w.heap[k]? := fun k hk hn => hb.block k (h.blocks k hk).2 (by simpa using hn)
  have hent : ∀ f, f ∈ s.ents → ∀ k, k ∈ f.own → k ∈ s.own B ∧ k ≠ B := by
    intro f hf k hk
    refine ⟨by unfold St.own; simp only [List.mem_cons, List.mem_flatMap]; exact .inr (.inr ⟨f, hf, hk⟩), ?_⟩
    unfold Ent.own at hk
    rcases List.mem_cons.1 hk with rfl | hk
    · intro e
      have h1 := (h.ents f hf).row
      rw [e] at h1
      exact absurd (h1.same_type h.row) (by decide)
    · cases hv : f.val.ownBlock with
      | none => rw [hv] at hk; cases hk
      | some g =>
        rw [hv] at hk
        obtain rfl : k = g := by simpa using hk
        exact (h.ents f hf).txt.ne_row h.row (by decide) k hv
  refine ⟨⟨hr, ?_, ?_, by rw [he]; exact h.apart, by rw [hm]; exact h.lo⟩, ⟨hb.os, hb.tape, hb.output, hb.size, fun k hk hn => hb.block k hk (fun e => hn (by simp at e; subst e; unfold St.own; simp))⟩, fun k hk => .inl ?_⟩
  · rw [hm, he]
    exact map_block h.map (hne _ (by unfold St.own; simp) (map_ne_row h.map h.row))
  · rw [he]
    exact fun f hf => (h.ents f hf).kept fun k hk => hne k (hent f hf k hk).1 (hent f hf k hk).2
  · unfold St.own at hk ⊢
    rw [hm, he] at hk
    exact hk
theorem pairwise_put {l1 l2 : List Ent} {f f' : Ent} (h : (l1 ++ f :: l2).Pairwise Ent.apart) (h1 : ∀ g, g ∈ l1 → g.apart f') (h2 : ∀ g, g ∈ l2 → f'.apart g) : (l1 ++ f' :: l2).Pairwise Ent.apart := by
  rw [List.pairwise_append, List.pairwise_cons] at h ⊢
  refine ⟨h.1, ⟨h2, h.2.1.2⟩, fun a ha b hb => ?_⟩
  rcases List.mem_cons.1 hb with rfl | hb
  · exact h1 a ha
  · exact h.2.2 a ha b (List.mem_cons_of_mem _ hb)
/-- One file is changed: its block, and the block of its bytes. -/
theorem St.At.file {w w' : World} {B base : Nat} {s : St} {l1 l2 : List Ent} {f f' : Ent} {S : List Nat} (h : s.At w B base) (hs : s.ents = l1 ++ f :: l2) (hb : But S w w') (hS : ∀ k, k ∈ S → k = f.blk ∨ f.val.ownBlock = some k)
    (hr : Row w' f.blk [f'.val, .int .i64 f'.sync] 63) (ht : Txt 5 w' f'.val f'.text) (hn : f'.name = f.name) (hk : f'.blk = f.blk) (hv : ∀ g, f'.val.ownBlock = some g → f.val.ownBlock = some g ∨ w.heap.size ≤ g) (hbase : base ≤ w.heap.size) :
    Step base B s { s with ents := l1 ++ f' :: l2 } w w' := by
  have hf : f ∈ s.ents := by rw [hs]; simp
  have hF := h.ents f hf
  have hfo : ∀ k, k ∈ S → k ∈ s.own B := by
    intro k hk
    unfold St.own
    simp only [List.mem_cons, List.mem_flatMap]
    refine .inr (.inr ⟨f, hf, ?_⟩)
    unfold Ent.own
    rcases hS k hk with rfl | h1
    · simp
    · rw [h1]; simp
  have hB : B ∉ S := by
    intro hm
    rcases hS B hm with e | e
    · have h1 := hF.row
      rw [← e] at h1
      exact absurd (h1.same_type h.row) (by decide)
    · exact hF.txt.ne_row h.row (by decide) B e rfl
  have hM : s.mp ∉ S := by
    intro hm
    rcases hS _ hm with e | e
    · exact map_ne_row h.map hF.row e
    · exact hF.txt.ne_map h.map _ e rfl
  have hoth : ∀ g, g ∈ l1 ∨ g ∈ l2 → g ∈ s.ents ∧ g.apart f ∧ f.apart g := by
    intro g hg
    have hp := h.apart
    rw [hs, List.pairwise_append, List.pairwise_cons] at hp
    have sym : ∀ a b : Ent, a.apart b → b.apart a := fun a b hab => ⟨Ne.symm hab.1, fun x hx hy => hab.2 x hy hx⟩
    rcases hg with hg | hg
    · have := hp.2.2 g hg f (by simp)
      exact ⟨by rw [hs]; simp [hg], this, sym _ _ this⟩
    · have := hp.2.1.1 g hg
      exact ⟨by rw [hs]; simp [hg], sym _ _ this, this⟩
  have hkeep : ∀ g, g ∈ l1 ∨ g ∈ l2 → g.At w' base := by
    intro g hg
    obtain ⟨h1, h2, h3⟩ := hoth g hg
    have hG := h.ents g h1
    refine hG.kept fun k hk => hb.block k (hG.blocks k hk).2 fun hkS => ?_
    unfold Ent.own at hk
    rcases List.mem_cons.1 hk with rfl | hk
    · rcases hS _ hkS with e | e
      · exact h2.1 e
      · exact hF.txt.ne_row hG.row (by decide) _ e rfl
    · cases hgv : g.val.ownBlock with
      | none => rw [hgv] at hk; cases hk
      | some t =>
        rw [hgv] at hk
        obtain rfl : k = t := by simpa using hk
        rcases hS _ hkS with e | e
        · exact hG.txt.ne_row hF.row (by decide) k hgv e
        · exact h2.2 k hgv e
  have hap : ∀ g, g ∈ l1 ∨ g ∈ l2 → g.apart f' ∧ f'.apart g := by
    intro g hg
    obtain ⟨h1, h2, h3⟩ := hoth g hg
    have hG := h.ents g h1
    have key : ∀ t, f'.val.ownBlock = some t → g.val.ownBlock ≠ some t := by
      intro t ht2 hg2
      rcases hv t ht2 with e | e
      · exact h3.2 t e hg2
      · have := hG.txt.lt t hg2; omega
    exact ⟨⟨by rw [hk]; exact h2.1, fun t hg2 hf2 => key t hf2 hg2⟩, ⟨by rw [hk]; exact h3.1, key⟩⟩
  refine ⟨⟨(hb.block B h.row.lt hB).trans h.row, ?_, ?_, ?_, h.lo⟩, ⟨hb.os, hb.tape, hb.output, hb.size, fun k hk2 hn2 => hb.block k hk2 (fun e => hn2 (hfo k e))⟩, ?_⟩
  · have e1 : toD (l1 ++ f' :: l2) = toD s.ents := by
      rw [hs]
      unfold toD
      simp [Ent.item, hn, hk]
    have e2 : (l1 ++ f' :: l2).length = s.ents.length := by rw [hs]; simp
    show w'.ownsMap _ _ _ s.mp (l1 ++ f' :: l2).length (toD (l1 ++ f' :: l2))
    rw [e1, e2]
    exact map_block h.map (hb.block _ h.map.lt hM)
  · intro g hg
    rcases List.mem_append.1 hg with hg | hg
    · exact hkeep g (.inl hg)
    · rcases List.mem_cons.1 hg with rfl | hg
      · refine ⟨by rw [hk]; exact hr, ht, by rw [hk]; exact hF.lo, fun t ht2 => ?_⟩
        rcases hv t ht2 with e | e
        · exact hF.tlo t e
        · omega
      · exact hkeep g (.inr hg)
  · have hp := h.apart
    rw [hs] at hp
    exact pairwise_put hp (fun g hg => (hap g (.inl hg)).1) (fun g hg => (hap g (.inr hg)).2)
  · intro k hk2
    unfold St.own at hk2 ⊢
    simp only [List.mem_cons, List.mem_flatMap] at hk2 ⊢
    rcases hk2 with h1 | h1 | ⟨g, hg, h1⟩
    · exact .inl (.inl h1)
    · exact .inl (.inr (.inl h1))
    · rcases List.mem_append.1 hg with hg | hg
      · exact .inl (.inr (.inr ⟨g, (hoth g (.inl hg)).1, h1⟩))
      · rcases List.mem_cons.1 hg with rfl | hg
        · unfold Ent.own at h1
          rcases List.mem_cons.1 h1 with rfl | h1
          · exact .inl (.inr (.inr ⟨f, hf, by unfold Ent.own; simp [hk]⟩))
          · cases hgv : g.val.ownBlock with
            | none => rw [hgv] at h1; cases h1
            | some t =>
              rw [hgv] at h1
              obtain rfl : k = t := by simpa using h1
              rcases hv _ hgv with e | e
              · exact .inl (.inr (.inr ⟨f, hf, by unfold Ent.own; rw [e]; simp⟩))
              · exact .inr e
        · exact .inl (.inr (.inr ⟨g, (hoth g (.inr hg)).1, h1⟩))
end Go.Proofs.Ytnncbbfbnccnbaa
