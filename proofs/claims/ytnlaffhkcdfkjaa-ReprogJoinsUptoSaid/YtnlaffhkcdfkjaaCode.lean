/- The code of a tree: the plain law, and lists of instructions in the memory. -/
import Derived.Test.YtnlaffhkcdfkjaaCs
import Derived.Test.YtnlaffhkcdfkjaaCount
import Derived.Test.YtnlaffhkcdfkjaaApp
import Derived.Laws.OwnMore
import Derived.Deep.AppendLies
namespace Go.Proofs.Ytnlaffhkcdfkjaa
open Go.RowKit

structure Inst where
  op : Int
  set : Cs
  x : Int
  y : Int
deriving DecidableEq
def Inst.cells (i : Inst) : List Value := [.int .i64 i.op, .int .u64 i.set.a, .int .u64 i.set.b, .int .u64 i.set.c, .int .u64 i.set.d, .int .i64 i.x, .int .i64 i.y]
def Inst.of (op : Int) : Inst := ⟨op, Cs.none, 0, 0⟩
def isplit (x y : Int) : Inst := ⟨2, Cs.none, x, y⟩
def ijump (x : Int) : Inst := ⟨3, Cs.none, x, 0⟩

mutual
/-- The number of instructions of a tree. -/
def Re.csize : Re → Nat
  | .mk p xs => if p.op = 2 ∨ p.op = 7 ∨ p.op = 8 then 1 else if p.op = 4 then Re.asize xs else if p.op = 5 then (if p.lo = 1 then Re.csizes xs + 1 else Re.csizes xs + 1 + (if p.hi < 0 then 1 else 0)) else Re.csizes xs
def Re.csizes : List Re → Nat
  | [] => 0
  | t :: ts => t.csize + Re.csizes ts
def Re.asize : List Re → Nat
  | [] => 0
  | t :: ts => t.csize + (if ts.isEmpty then 0 else 2 + Re.asize ts)
end
mutual
/-- The instructions of a tree, the first of which has the number n. -/
def Re.gen : Re → Nat → List Inst
  | .mk p xs, n => if p.op = 2 then [⟨1, p.set, 0, 0⟩] else if p.op = 7 then [Inst.of 4] else if p.op = 8 then [Inst.of 5] else if p.op = 4 then Re.galt xs n (n + Re.asize xs)
    else if p.op = 5 then (if p.lo = 1 then Re.gens xs n ++ [isplit n (n + Re.csizes xs + 1 : Nat)]
      else isplit (n + 1 : Nat) (n + 1 + Re.csizes xs + (if p.hi < 0 then 1 else 0) : Nat) :: (Re.gens xs (n + 1) ++ (if p.hi < 0 then [ijump n] else [])))
    else Re.gens xs n
def Re.gens : List Re → Nat → List Inst
  | [], _ => []
  | t :: ts, n => t.gen n ++ Re.gens ts (n + t.csize)
def Re.galt : List Re → Nat → Nat → List Inst
  | [], _, _ => []
  | t :: ts, n, fin => if ts.isEmpty then t.gen n else isplit (n + 1 : Nat) (n + t.csize + 2 : Nat) :: (t.gen (n + 1) ++ [ijump fin] ++ Re.galt ts (n + t.csize + 2) fin)
end
mutual
theorem Re.gen_len : ∀ (t : Re) (n : Nat), (t.gen n).length = t.csize
  | .mk p xs, n => by
    have h1 := Re.gens_len xs n
    have h2 := Re.gens_len xs (n + 1)
    have h3 := Re.galt_len xs n (n + Re.asize xs)
    rw [Re.gen, Re.csize]
    by_cases o2 : p.op = 2
    · rw [if_pos o2, if_pos (.inl o2)]; rfl
    rw [if_neg o2]
    by_cases o7 : p.op = 7
    · rw [if_pos o7, if_pos (.inr (.inl o7))]; rfl
    rw [if_neg o7]
    by_cases o8 : p.op = 8
    · rw [if_pos o8, if_pos (.inr (.inr o8))]; rfl
    have o278 : ¬ (p.op = 2 ∨ p.op = 7 ∨ p.op = 8) := by omega
    rw [if_neg o8, if_neg o278]
    by_cases o4 : p.op = 4
    · rw [if_pos o4, if_pos o4]; exact h3
    rw [if_neg o4, if_neg o4]
    by_cases o5 : p.op = 5
    · rw [if_pos o5, if_pos o5]
      by_cases hl : p.lo = 1
      · rw [if_pos hl, if_pos hl]; simp [h1]
      · rw [if_neg hl, if_neg hl]
        by_cases hh : p.hi < 0
        · simp [hh, h2]
        · simp [hh, h2]
    · rw [if_neg o5, if_neg o5]; exact h1
theorem Re.gens_len : ∀ (xs : List Re) (n : Nat), (Re.gens xs n).length = Re.csizes xs
  | [], n => by rw [Re.gens, Re.csizes]; rfl
  | t :: ts, n => by rw [Re.gens, Re.csizes, List.length_append, Re.gen_len t n, Re.gens_len ts _]
theorem Re.galt_len : ∀ (xs : List Re) (n fin : Nat), (Re.galt xs n fin).length = Re.asize xs
  | [], n, fin => by rw [Re.galt, Re.asize]; rfl
  | t :: ts, n, fin => by
    have h1 := Re.gen_len t n
    have h2 := Re.gen_len t (n + 1)
    have h3 := Re.galt_len ts (n + t.csize + 2) fin
    rw [Re.galt, Re.asize]
    by_cases h : ts.isEmpty = true
    · rw [if_pos h, if_pos h]; exact h1
    · rw [if_neg h, if_neg h]; simp [h2, h3]; omega
end

/-- The slice value v owns the instructions L. -/
def OwnI (w : World) (base : Nat) (v : Value) (L : List Inst) : Prop := w.ownsRow base 39 7 v L.length (L.flatMap Inst.cells)
theorem flatI_len (L : List Inst) : (L.flatMap Inst.cells).length = L.length * 7 := by
  induction L with
  | nil => rfl
  | cons f l ih => simp [List.flatMap_cons, ih, Inst.cells]; omega
theorem flatI_get (L : List Inst) : ∀ (k : Nat) (f : Inst) (i : Nat), L[k]? = some f → i < 7 → (L.flatMap Inst.cells)[k * 7 + i]? = f.cells[i]? := by
  induction L with
  | nil => intro k f i h; simp at h
  | cons a l ih =>
    intro k f i h hi
    cases k with
    | zero =>
      simp at h
      subst h
      rw [List.flatMap_cons, Nat.zero_mul, Nat.zero_add, List.getElem?_append_left (by simp [Inst.cells]; omega)]
    | succ k =>
      rw [List.flatMap_cons, List.getElem?_append_right (by simp [Inst.cells]; omega)]
      have : (k + 1) * 7 + i - a.cells.length = k * 7 + i := by simp [Inst.cells]; omega
      rw [this]
      exact ih k f i (by simpa using h) hi
theorem flatI_x : ∀ (L : List Inst) (k : Nat) (f : Inst) (v : Int), L[k]? = some f → (L.flatMap Inst.cells).set (k * 7 + 5) (.int .i64 v) = (L.set k { f with x := v }).flatMap Inst.cells
  | a :: l, 0, f, v, h => by
    simp at h
    subst h
    rfl
  | a :: l, k + 1, f, v, h => by
    have ih := flatI_x l k f v (by simpa using h)
    rw [List.set_cons_succ, List.flatMap_cons, List.flatMap_cons, ← ih, show (k + 1) * 7 + 5 = (k * 7 + 5) + 7 by omega]
    rfl
theorem flatI_y : ∀ (L : List Inst) (k : Nat) (f : Inst) (v : Int), L[k]? = some f → (L.flatMap Inst.cells).set (k * 7 + 6) (.int .i64 v) = (L.set k { f with y := v }).flatMap Inst.cells
  | a :: l, 0, f, v, h => by
    simp at h
    subst h
    rfl
  | a :: l, k + 1, f, v, h => by
    have ih := flatI_y l k f v (by simpa using h)
    rw [List.set_cons_succ, List.flatMap_cons, List.flatMap_cons, ← ih, show (k + 1) * 7 + 6 = (k * 7 + 6) + 7 by omega]
    rfl
theorem OwnI.nil (w : World) (base : Nat) : OwnI w base (.slice none 0 0) [] := World.ownsRow_nil _ _ _ _
theorem OwnI.lt {w : World} {base : Nat} {v : Value} {L : List Inst} (h : OwnI w base v L) : ∀ g, v.ownBlock = some g → base ≤ g ∧ g < w.heap.size := World.ownsRow.lt h
theorem OwnI.alloc {w : World} {base : Nat} {v : Value} {L : List Inst} (h : OwnI w base v L) (o : Obj) : OwnI (w.alloc o) base v L := World.ownsRow.alloc h o
theorem OwnI.below {w w' : World} {base : Nat} {v : Value} {L : List Inst} (h : OwnI w base v L) (hb : Below w.heap.size w w') : OwnI w' base v L :=
  World.ownsRow.kept h (row := none) ⟨hb.os, hb.tape, hb.output, hb.size, fun j hj _ => hb.block j hj⟩ (by
    cases hv : v.ownBlock with
    | none => exact .inl rfl
    | some g => exact .inr fun e => by cases e)
theorem OwnI.but {w w' : World} {base M : Nat} {v : Value} {L : List Inst} (h : OwnI w base v L) (hb : But [M] w w') (hM : M < base) : OwnI w' base v L :=
  World.ownsRow.kept h (row := some M) ⟨hb.os, hb.tape, hb.output, hb.size, fun j hj hn => hb.block j hj (by simp; intro e; exact hn (by rw [e]))⟩ (by
    cases hv : v.ownBlock with
    | none => exact .inl rfl
    | some g => refine .inr fun e => ?_; cases e; have := h.lt _ hv; omega)
theorem OwnI.form {w : World} {base : Nat} {v : Value} {L : List Inst} (h : OwnI w base v L) : ∃ a c, v = .slice a L.length c := ownsRow_shape h
/-- A list that is not empty: its block, and the cells of its elements. -/
theorem OwnI.elem {w : World} {base : Nat} {a : Option Addr} {n c : Nat} {L : List Inst} (h : OwnI w base (.slice a n c) L) (k : Nat) (f : Inst) (hk : L[k]? = some f) : n = L.length ∧ ∃ g, a = some ⟨g, 0, none⟩ ∧ base ≤ g ∧ g < w.heap.size ∧ CellsAt w g (k * 7) f.cells ∧ (∀ i, w.frozen? ⟨g, i, none⟩ = false) ∧
    (∀ v, OwnI (w.setCell ⟨g, k * 7 + 5, none⟩ (.int .i64 v)) base (.slice a n c) (L.set k { f with x := v })) ∧ (∀ v, OwnI (w.setCell ⟨g, k * 7 + 6, none⟩ (.int .i64 v)) base (.slice a n c) (L.set k { f with y := v })) := by
  have hkl : k < L.length := (List.getElem?_eq_some_iff.1 hk).1
  obtain ⟨g, cap, hv, hg1, hg2⟩ := World.ownsRow.form h (by omega)
  injection hv with e1 e2 e3
  subst e1 e2 e3
  refine ⟨rfl, g, rfl, hg1, hg2, fun i v hi => ?_, fun i => World.ownsRow.frozenAt h i, fun v => ?_, fun v => ?_⟩
  · have hi7 : i < 7 := by
      rcases Nat.lt_or_ge i 7 with h1 | h1
      · exact h1
      · simp [Inst.cells, h1] at hi
    rw [World.ownsRow.cellAt h (k * 7 + i) (by omega), flatI_get L k f i hk hi7, hi]
  · have h1 := (World.ownsRow.stored h (k * 7 + 5) (.int .i64 v)).1
    rw [flatI_x L k f v hk] at h1
    unfold OwnI
    rw [List.length_set]
    exact h1
  · have h1 := (World.ownsRow.stored h (k * 7 + 6) (.int .i64 v)).1
    rw [flatI_y L k f v hk] at h1
    unfold OwnI
    rw [List.length_set]
    exact h1
end Go.Proofs.Ytnlaffhkcdfkjaa
