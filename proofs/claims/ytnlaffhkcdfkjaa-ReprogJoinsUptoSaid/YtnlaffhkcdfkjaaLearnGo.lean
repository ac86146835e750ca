/- The program's learn: the walk. -/
import Derived.Test.YtnlaffhkcdfkjaaLearn
import Derived.Test.YtnlaffhkcdfkjaaApp
import Derived.Test.YtnlaffhkcdfkjaaMap
import Derived.Test.YtnlaffhkcdfkjaaRefNamed
import Derived.Deep.DeepCutAuto
import Derived.Deep.CutBlock
namespace Go.Proofs.Ytnlaffhkcdfkjaa
open Go.RowKit
attribute [local go_sem] gives givesUpon

-- def BOX := .cells #[.int .i64 p.op, .int .u64 p.set.a, .int .u64 p.set.b, .int .u64 p.set.c, .int .u64 p.set.d, .int .i64 p.lo, .int .i64 p.hi, .int .i64 p.gr, .slice ad xs.length cap] 28
-- def BL := [.int .i64 p.op, .int .u64 p.set.a, .int .u64 p.set.b, .int .u64 p.set.c, .int .u64 p.set.d, .int .i64 p.lo, .int .i64 p.hi, .int .i64 p.gr, .slice ad xs.length cap]
-- def C0 := [.bool false, .int .i64 0, .int .i64 0, .int .u64 0, .int .u64 0, .int .u64 0, .int .u64 0]


def encF (f : Facts) : Value := .agg f.cells.toArray
/-- Block M is the map of what the groups are known to be. -/
def GMap (w : World) (M : Nat) (g : Int → Option Facts) : Prop := IMap w M (fun k => (g k).map encF)

theorem GMap.alloc {w : World} {M : Nat} {g : Int → Option Facts} (h : GMap w M g) (o : Obj) : GMap (w.alloc o) M g := IMap.alloc h o
theorem GMap.lt {w : World} {M : Nat} {g : Int → Option Facts} (h : GMap w M g) : M < w.heap.size := IMap.lt h
theorem flatF_len (l : List Facts) : (l.flatMap Facts.cells).length = l.length * 7 := by
  induction l with
  | nil => rfl
  | cons f l ih => simp [List.flatMap_cons, ih, Facts.cells]; omega
theorem Re.typed_kid {p : Pay} {xs : List Re} (h : (Re.mk p xs).typed = true) (k : Nat) (hk : k < xs.length) : xs[k].typed = true := by
  rw [Re.typed] at h
  cases h2 : xs[k].typed with
  | true => rfl
  | false => have := Re.typeds_get xs k xs[k] (by simp [hk]) h2; simp [this] at h

theorem grown_block {w w' : World} {v : Value} {base : Nat} (h : w.grownBy w' v.ownBlock) (hv : ∀ g, v.ownBlock = some g → base ≤ g) (k : Nat) (h1 : k < base) (h2 : k < w.heap.size) : w'.heap[k]? = w.heap[k]? :=
  h.block k h2 (fun e => by have := hv k e.symm; omega)

theorem But.set7 {S : List Nat} {w x : World} {B : Nat} (h : But S w x) (hB : w.heap.size ≤ B) (a' b' c' d' e' f' g' : Value) : But S w (((((((x.setCell ⟨B, 0, none⟩ a').setCell ⟨B, 1, none⟩ b').setCell ⟨B, 2, none⟩ c').setCell ⟨B, 3, none⟩ d').setCell ⟨B, 4, none⟩ e').setCell ⟨B, 5, none⟩ f').setCell ⟨B, 6, none⟩ g') :=
  ((((((h.setCell (.inr hB) _).setCell (.inr hB) _).setCell (.inr hB) _).setCell (.inr hB) _).setCell (.inr hB) _).setCell (.inr hB) _).setCell (.inr hB) _
theorem IMap.other7 {w : World} {M B : Nat} {f : Int → Option Value} (h : IMap w M f) (hn : M ≠ B) (a' b' c' d' e' f' g' : Value) : IMap (((((((w.setCell ⟨B, 0, none⟩ a').setCell ⟨B, 1, none⟩ b').setCell ⟨B, 2, none⟩ c').setCell ⟨B, 3, none⟩ d').setCell ⟨B, 4, none⟩ e').setCell ⟨B, 5, none⟩ f').setCell ⟨B, 6, none⟩ g') M f :=
  ((((((h.other hn _ _).other hn _ _).other hn _ _).other hn _ _).other hn _ _).other hn _ _).other hn _ _
theorem flatF_get (l : List Facts) : ∀ (k : Nat) (f : Facts) (i : Nat), l[k]? = some f → i < 7 → (l.flatMap Facts.cells)[k * 7 + i]? = f.cells[i]? := by
  induction l with
  | nil => intro k f i h; simp at h
  | cons a l ih =>
    intro k f i h hi
    cases k with
    | zero =>
      simp at h
      subst h
      rw [List.flatMap_cons, Nat.zero_mul, Nat.zero_add, List.getElem?_append_left (by simp [Facts.cells]; omega)]
    | succ k =>
      rw [List.flatMap_cons, List.getElem?_append_right (by simp [Facts.cells]; omega)]
      have : (k + 1) * 7 + i - a.cells.length = k * 7 + i := by simp [Facts.cells]; omega
      rw [this]
      exact ih k f i (by simpa using h) hi


theorem CellsAt.c7 {w : World} {b o : Nat} {F : Facts} (h : CellsAt w b o F.cells) : (w.cell? ⟨b, o, none⟩ = some (.bool F.null) ∧ w.cell? ⟨b, o + 1, none⟩ = some (.int .i64 F.least) ∧ w.cell? ⟨b, o + 2, none⟩ = some (.int .i64 F.most) ∧ w.cell? ⟨b, o + 3, none⟩ = some (.int .u64 F.first.a) ∧ w.cell? ⟨b, o + 4, none⟩ = some (.int .u64 F.first.b) ∧ w.cell? ⟨b, o + 5, none⟩ = some (.int .u64 F.first.c) ∧ w.cell? ⟨b, o + 6, none⟩ = some (.int .u64 F.first.d)) :=
  ⟨h 0 _ rfl, h 1 _ rfl, h 2 _ rfl, h 3 _ rfl, h 4 _ rfl, h 5 _ rfl, h 6 _ rfl⟩
theorem Re.learns_two {p : Pay} {xs : List Re} (h : (Re.mk p xs).typed = true) (hop : p.op = 3 ∨ p.op = 4) (g : Int → Option Facts) : ∃ F l, (Re.learns xs g).1 = F :: l ∧ 1 ≤ l.length := by
  have hl : 2 ≤ xs.length := by
    rw [Re.typed] at h
    simp only [Bool.and_eq_true] at h
    have h1 := h.1
    unfold Pay.shaped at h1
    rcases hop with o | o <;> simp [o] at h1 <;> omega
  have := Re.learns_len xs g
  match hx : (Re.learns xs g).1 with
  | F :: l => exact ⟨F, l, rfl, by rw [hx] at this; simp at this; omega⟩
  | [] => rw [hx] at this; simp at this; omega
theorem Re.learns_one {p : Pay} {xs : List Re} (h : (Re.mk p xs).typed = true) (hop : p.op = 5 ∨ p.op = 6) (g : Int → Option Facts) : ∃ F, (Re.learns xs g).1 = [F] := by
  have hl : xs.length = 1 := by
    rw [Re.typed] at h
    simp only [Bool.and_eq_true] at h
    have h1 := h.1
    unfold Pay.shaped at h1
    rcases hop with o | o <;> simp [o] at h1 <;> omega
  have := Re.learns_len xs g
  match hx : (Re.learns xs g).1 with
  | [F] => exact ⟨F, rfl⟩
  | [] => rw [hx] at this; simp at this; omega
  | _ :: _ :: _ => rw [hx] at this; simp at this; omega

theorem CellsAt.but {S : List Nat} {w w' : World} {b o : Nat} {cs : List Value} (h : CellsAt w b o cs) (hb : But S w w') (hS : b ∉ S) : CellsAt w' b o cs := by
  intro j v hj
  have hn : cs ≠ [] := by rintro rfl; simp at hj
  rw [World.cell?_of_block (hb.block b (h.block hn) hS)]
  exact h j v hj
theorem But.of_below' {S : List Nat} {w w' : World} (h : Below w.heap.size w w') : But S w w' := But.of_below h

theorem Row.other4' {w : World} {B B' : Nat} {cs : List Value} {T : TypeId} (h : Row w B cs T) (hn : B ≠ B') (a' b' c' d' : Value) : Row ((((w.setCell ⟨B', 3, none⟩ a').setCell ⟨B', 4, none⟩ b').setCell ⟨B', 5, none⟩ c').setCell ⟨B', 6, none⟩ d') B cs T :=
  (((h.other hn _ _).other hn _ _).other hn _ _).other hn _ _



theorem But.set7m {S : List Nat} {w x : World} {B : Nat} (h : But S w x) (hB : B ∈ S) (a' b' c' d' e' f' g' : Value) : But S w (((((((x.setCell ⟨B, 0, none⟩ a').setCell ⟨B, 1, none⟩ b').setCell ⟨B, 2, none⟩ c').setCell ⟨B, 3, none⟩ d').setCell ⟨B, 4, none⟩ e').setCell ⟨B, 5, none⟩ f').setCell ⟨B, 6, none⟩ g') :=
  ((((((h.setCell (.inl hB) _).setCell (.inl hB) _).setCell (.inl hB) _).setCell (.inl hB) _).setCell (.inl hB) _).setCell (.inl hB) _).setCell (.inl hB) _

end Go.Proofs.Ytnlaffhkcdfkjaa
