/- The reference of the parses: what a visit may change. -/
import Derived.Test.YthnpbopnpdlmnaaX34
import Derived.Deep.AppendLies
namespace Go.Proofs.Ythnpbopnpdlmnaa
open Go.RowKit
attribute [local go_sem] gives givesUpon

def blk (v : Value) : List Nat := v.ownBlock.toList
theorem mem_blk {v : Value} {g : Nat} : g ∈ blk v ↔ v.ownBlock = some g := by unfold blk; simp
structure Fr (X : Nat) (w : World) (sv ov : Value) (w' : World) (sv' ov' : Value) : Prop where
  but : But (X :: (blk sv ++ blk ov)) w w'
  s : ∀ g, sv'.ownBlock = some g → sv.ownBlock = some g ∨ w.heap.size ≤ g
  o : ∀ g, ov'.ownBlock = some g → ov.ownBlock = some g ∨ w.heap.size ≤ g
theorem Fr.of_below {X : Nat} {w w' : World} {sv ov : Value} (h : Below w.heap.size w w') : Fr X w sv ov w' sv ov := ⟨But.of_below h, fun _ h => .inl h, fun _ h => .inl h⟩
theorem Fr.trans {X : Nat} {a b c : World} {s0 o0 s1 o1 s2 o2 : Value} (h : Fr X a s0 o0 b s1 o1) (k : Fr X b s1 o1 c s2 o2) : Fr X a s0 o0 c s2 o2 := by
  refine ⟨h.but.later k.but fun i hi => ?_, fun g hg => ?_, fun g hg => ?_⟩
  · rcases List.mem_cons.1 hi with rfl | hi
    · exact .inl (by simp)
    · rcases List.mem_append.1 hi with hi | hi
      · exact (h.s i (mem_blk.1 hi)).imp (fun h1 => by simp [mem_blk.2 h1]) id
      · exact (h.o i (mem_blk.1 hi)).imp (fun h1 => by simp [mem_blk.2 h1]) id
  · rcases k.s g hg with h1 | h1
    · exact h.s g h1
    · exact .inr (Nat.le_trans h.but.size h1)
  · rcases k.o g hg with h1 | h1
    · exact h.o g h1
    · exact .inr (Nat.le_trans h.but.size h1)
section
variable {s : ByteArray} {lines : Bool} {E0 E1 E2 E3 E4 E5 E6 E7 E8 : Value} {base X : Nat} {sv ov : Value} {seen : List Sit} {out : List Parse}
theorem LpAt.span {x : World} (h : LpAt s lines E0 E1 E2 E3 E4 E5 E6 E7 E8 base X sv ov seen out x) {b : Nat} {cs : List Value} (hr : Row x b cs 47) : b ∉ X :: (blk sv ++ blk ov) := by
  intro hm
  rcases List.mem_cons.1 hm with rfl | hm
  · exact absurd (hr.typed h.1) (by decide)
  · rcases List.mem_append.1 hm with hm | hm
    · obtain ⟨cs', hr'⟩ := h.2.1.row (mem_blk.1 hm)
      exact absurd (hr.typed hr') (by decide)
    · obtain ⟨cs', hr'⟩ := h.2.2.1.row (mem_blk.1 hm)
      exact absurd (hr.typed hr') (by decide)
theorem LpAt.parse {x : World} (h : LpAt s lines E0 E1 E2 E3 E4 E5 E6 E7 E8 base X sv ov seen out x) {b : Nat} {cs : List Value} (hr : Row x b cs 40) (hb : ov.ownBlock ≠ some b) : b ∉ X :: (blk sv ++ blk ov) := by
  intro hm
  rcases List.mem_cons.1 hm with rfl | hm
  · exact absurd (hr.typed h.1) (by decide)
  · rcases List.mem_append.1 hm with hm | hm
    · obtain ⟨cs', hr'⟩ := h.2.1.row (mem_blk.1 hm)
      exact absurd (hr.typed hr') (by decide)
    · exact hb (mem_blk.1 hm)
theorem LpAt.sit {x : World} (h : LpAt s lines E0 E1 E2 E3 E4 E5 E6 E7 E8 base X sv ov seen out x) {b : Nat} {cs : List Value} (hr : Row x b cs 130) (hb : sv.ownBlock ≠ some b) : b ∉ X :: (blk sv ++ blk ov) := by
  intro hm
  rcases List.mem_cons.1 hm with rfl | hm
  · exact absurd (hr.typed h.1) (by decide)
  · rcases List.mem_append.1 hm with hm | hm
    · exact hb (mem_blk.1 hm)
    · obtain ⟨cs', hr'⟩ := h.2.2.1.row (mem_blk.1 hm)
      exact absurd (hr.typed hr') (by decide)
theorem LpAt.fr_span {w w' : World} {sv' ov' : Value} (h : LpAt s lines E0 E1 E2 E3 E4 E5 E6 E7 E8 base X sv ov seen out w) (hf : Fr X w sv ov w' sv' ov') {v : Value} {sp : Spans} (hs : SpQ w v sp) : SpQ w' v sp := hs.but hf.but fun _ _ hr => h.span hr
theorem LpAt.fr_ps {w w' : World} {sv' ov' : Value} (h : LpAt s lines E0 E1 E2 E3 E4 E5 E6 E7 E8 base X sv ov seen out w) (hf : Fr X w sv ov w' sv' ov') {v : Value} {l : List Parse} (hs : PsQ (fun b => ov.ownBlock ≠ some b) w v l) : PsQ (fun b => ov'.ownBlock ≠ some b) w' v l :=
  hs.of (fun b cs hr => hr.but hf.but (h.span hr)) fun b cs hp hr => ⟨hr.but hf.but (h.parse hr hp), fun e => by rcases hf.o b e with h1 | h1; exact hp h1; have := hr.lt; omega⟩
theorem LpAt.fr_below {w w' : World} {sv' ov' : Value} (h : LpAt s lines E0 E1 E2 E3 E4 E5 E6 E7 E8 base X sv ov seen out w) (hf : Fr X w sv ov w' sv' ov') : Below base w w' :=
  hf.but.below (Nat.le_trans h.2.2.2 (Nat.le_of_lt h.1.lt)) fun k hk => by
    rcases List.mem_cons.1 hk with rfl | hk
    · exact h.2.2.2
    · rcases List.mem_append.1 hk with hk | hk
      · exact (h.2.1.lt k (mem_blk.1 hk)).1
      · exact (h.2.2.1.lt k (mem_blk.1 hk)).1
theorem LpAt.aside {x y : World} (h : LpAt s lines E0 E1 E2 E3 E4 E5 E6 E7 E8 base X sv ov seen out x) {b : Nat} {cs : List Value} (hb : But [b] x y) (hr : Row x b cs 130) (hne : sv.ownBlock ≠ some b) : LpAt s lines E0 E1 E2 E3 E4 E5 E6 E7 E8 base X sv ov seen out y := by
  have hn := h.sit hr hne
  simp only [List.mem_cons, List.mem_append, not_or, mem_blk] at hn
  have hsp : ∀ c cs', Row x c cs' 47 → Row y c cs' 47 := fun c cs' hr' => hr'.but hb (fun hm => by
    have := List.mem_singleton.1 hm
    subst this
    exact absurd (hr.typed hr') (by decide))
  exact ⟨h.1.but hb (fun hm => hn.1 (List.mem_singleton.1 hm).symm), h.2.1.keep hsp fun g hg => hb.block g (h.2.1.lt g hg).2 (fun hm => hn.2.1 ((List.mem_singleton.1 hm) ▸ hg)), h.2.2.1.keep hsp fun g hg => hb.block g (h.2.2.1.lt g hg).2 (fun hm => hn.2.2 ((List.mem_singleton.1 hm) ▸ hg)), h.2.2.2⟩
theorem LpAt.push {w x y : World} {g c n : Nat} {st : Sit} {sa : Option Addr} {sc : Nat} {L : List (Sit × Value)} (h : LpAt s lines E0 E1 E2 E3 E4 E5 E6 E7 E8 base X sv ov seen out x) (hL : L.map Prod.fst = seen) (hSL : SL x L) (hrow : x.ownsRow base 130 3 sv n (L.flatMap scell)) (hn : n = seen.length) (hsq : SpQ x (.slice sa st.2.2.length sc) st.2.2)
    (ho : y.ownsRow base 130 3 (.slice (some ⟨g, 0, none⟩) (n + 1) c) (n + 1) (L.flatMap scell ++ [.int .i64 st.1, .int .i64 st.2.1, .slice sa st.2.2.length sc])) (hg : x.grownBy y sv.ownBlock) (hw : w = y.setCell ⟨X, 11, none⟩ (.slice (some ⟨g, 0, none⟩) (n + 1) c)) :
    LpAt s lines E0 E1 E2 E3 E4 E5 E6 E7 E8 base X (.slice (some ⟨g, 0, none⟩) (n + 1) c) ov (seen ++ [st]) out w := by
  subst hw
  have hX : Row y X [.string s, .bool lines, E0, E1, E2, E3, E4, E5, E6, E7, E8, sv, ov] 127 := h.1.grownOwn hrow (by decide) hg
  have hsp : ∀ b cs, Row x b cs 47 → Row y b cs 47 := fun b cs hr => hr.grownOwn hrow (by decide) hg
  have hsp2 : ∀ b cs, Row y b cs 47 → Row (y.setCell ⟨X, 11, none⟩ (.slice (some ⟨g, 0, none⟩) (n + 1) c)) b cs 47 := fun b cs hr => hr.other (fun e => by subst e; exact absurd (hr.typed hX) (by decide)) _ _
  have hS : OwnS y base (.slice (some ⟨g, 0, none⟩) (n + 1) c) (seen ++ [st]) := by
    refine ⟨L ++ [(st, .slice sa st.2.2.length sc)], by rw [List.map_append, hL]; rfl, fun z hz => ?_, ?_⟩
    · rcases List.mem_append.1 hz with hz | hz
      · exact (hSL z hz).of hsp
      · have := List.mem_singleton.1 hz; subst this; exact hsq.of hsp
    · rw [List.length_append, ← hn, List.flatMap_append]
      exact ho
  have hO : OwnP y base ov (nub out) := h.2.2.1.keep hsp fun g' hg' => hg.block g' (h.2.2.1.lt g' hg').2 fun e => by
    obtain ⟨cs1, r1⟩ := h.2.2.1.row hg'
    obtain ⟨cs2, r2⟩ := h.2.1.row e.symm
    exact absurd (r1.typed r2) (by decide)
  refine ⟨hX.set 11 _, hS.keep hsp2 fun g' hg' => Below.heap_setCell _ _ _ _ fun e => ?_, hO.keep hsp2 fun g' hg' => Below.heap_setCell _ _ _ _ fun e => ?_, h.2.2.2⟩
  · obtain ⟨cs1, r1⟩ := hS.row hg'
    subst e; exact absurd (r1.typed hX) (by decide)
  · obtain ⟨cs1, r1⟩ := hO.row hg'
    subst e; exact absurd (r1.typed hX) (by decide)
theorem LpAt.newOut {w x y : World} {a : Option Addr} {n c : Nat} {out' : List Parse} (h : LpAt s lines E0 E1 E2 E3 E4 E5 E6 E7 E8 base X sv ov seen out x) (ho : OwnP y base (.slice a n c) (nub out')) (hg : x.grownBy y ov.ownBlock) (hw : w = y.setCell ⟨X, 12, none⟩ (.slice a n c)) :
    LpAt s lines E0 E1 E2 E3 E4 E5 E6 E7 E8 base X sv (.slice a n c) seen out' w := by
  subst hw
  obtain ⟨_, Lo, o1, o2, o3⟩ := h.2.2.1
  have hX : Row y X [.string s, .bool lines, E0, E1, E2, E3, E4, E5, E6, E7, E8, sv, ov] 127 := h.1.grownOwn o3 (by decide) hg
  have hsp : ∀ b cs, Row x b cs 47 → Row y b cs 47 := fun b cs hr => hr.grownOwn o3 (by decide) hg
  have hsp2 : ∀ b cs, Row y b cs 47 → Row (y.setCell ⟨X, 12, none⟩ (.slice a n c)) b cs 47 := fun b cs hr => hr.other (fun e => by subst e; exact absurd (hr.typed hX) (by decide)) _ _
  have hS : OwnS y base sv seen := h.2.1.keep hsp fun g' hg' => hg.block g' (h.2.1.lt g' hg').2 fun e => by
    obtain ⟨cs1, r1⟩ := h.2.1.row hg'
    obtain ⟨cs2, r2⟩ := h.2.2.1.row e.symm
    exact absurd (r1.typed r2) (by decide)
  refine ⟨hX.set 12 _, hS.keep hsp2 fun g' hg' => Below.heap_setCell _ _ _ _ fun e => ?_, ho.keep hsp2 fun g' hg' => Below.heap_setCell _ _ _ _ fun e => ?_, h.2.2.2⟩
  · obtain ⟨cs1, r1⟩ := hS.row hg'
    subst e; exact absurd (r1.typed hX) (by decide)
  · obtain ⟨cs1, r1⟩ := ho.row hg'
    subst e; exact absurd (r1.typed hX) (by decide)
end
def StOk (N L : Nat) (st : List Sit × List Parse) : Prop := (∀ y, y ∈ st.1 → y.2.2.length ≤ 9) ∧ st.1.length ≤ 4096 ∧ st.2.length ≤ st.1.length ∧ ∀ q, q ∈ st.2 → POk N L 0 q
def VisPost (N : Nat) (s : ByteArray) (lines : Bool) (E0 E1 E2 E3 E4 E5 E6 E7 E8 : Value) (base X : Nat) (sv ov : Value) (m : Nat) (w : World) (r : Option (List Sit × List Parse)) (e : Ending) (w' : World) : Prop :=
  ∃ sv' ov', e = .returned (.bool r.isSome) ∧ Fr X w sv ov w' sv' ov' ∧ ∀ st', r = some st' → LpAt s lines E0 E1 E2 E3 E4 E5 E6 E7 E8 base X sv' ov' st'.1 st'.2 w' ∧ StOk N s.size st' ∧ m ≤ st'.1.length
end Go.Proofs.Ythnpbopnpdlmnaa
