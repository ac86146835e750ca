/- The code of a tree: the plain law, and lists of instructions in the memory. -/
import Derived.Test.YtnjcfggadeakpaaG03
import Derived.Laws.OwnMore
import Derived.Deep.AppendLies
import Derived.Test.YtnjcfggadeakpaaProg
import Derived.Test.YtnjcfggadeakpaaG01
import Derived.Test.YtnjcfggadeakpaaG02
import Derived.Deep.RegionLaw
namespace Go.Proofs.Ytnjcfggadeakpaa
open Go.RowKit

structure Inst where
  op : Int
  set : Cs
  x : Int
  y : Int
deriving DecidableEq
def Inst.cells (i : Inst) : List Value := [.int .i64 i.op, .int .u64 i.set.a, .int .u64 i.set.b, .int .u64 i.set.c, .int .u64 i.set.d, .int .i64 i.x, .int .i64 i.y]
def Inst.of (op : Int) : Inst := ⟨op, Cs.none, 0, 0⟩
def isplit (x y : Int) : Inst := ⟨2, Cs.none, x, y⟩
def ijump (x : Int) : Inst := ⟨3, Cs.none, x, 0⟩

mutual
/-- The number of instructions of a tree. -/
def Re.csize : Re → Nat
  | .mk p xs => if p.op = 2 ∨ p.op = 7 ∨ p.op = 8 then 1 else if p.op = 4 then Re.asize xs else if p.op = 5 then (if p.lo = 1 then Re.csizes xs + 1 else Re.csizes xs + 1 + (if p.hi < 0 then 1 else 0)) else Re.csizes xs
def Re.csizes : List Re → Nat
  | [] => 0
  | t :: ts => t.csize + Re.csizes ts
def Re.asize : List Re → Nat
  | [] => 0
  | t :: ts => t.csize + (if ts.isEmpty then 0 else 2 + Re.asize ts)
end
mutual
/-- The instructions of a tree, the first of which has the number n. -/
def Re.gen : Re → Nat → List Inst
  | .mk p xs, n => if p.op = 2 then [⟨1, p.set, 0, 0⟩] else if p.op = 7 then [Inst.of 4] else if p.op = 8 then [Inst.of 5] else if p.op = 4 then Re.galt xs n (n + Re.asize xs)
    else if p.op = 5 then (if p.lo = 1 then Re.gens xs n ++ [isplit n (n + Re.csizes xs + 1 : Nat)]
      else isplit (n + 1 : Nat) (n + 1 + Re.csizes xs + (if p.hi < 0 then 1 else 0) : Nat) :: (Re.gens xs (n + 1) ++ (if p.hi < 0 then [ijump n] else [])))
    else Re.gens xs n
def Re.gens : List Re → Nat → List Inst
  | [], _ => []
  | t :: ts, n => t.gen n ++ Re.gens ts (n + t.csize)
def Re.galt : List Re → Nat → Nat → List Inst
  | [], _, _ => []
  | t :: ts, n, fin => if ts.isEmpty then t.gen n else isplit (n + 1 : Nat) (n + t.csize + 2 : Nat) :: (t.gen (n + 1) ++ [ijump fin] ++ Re.galt ts (n + t.csize + 2) fin)
end
mutual
theorem Re.gen_len : ∀ (t : Re) (n : Nat), (t.gen n).length = t.csize
  | .mk p xs, n => by
    have h1 := Re.gens_len xs n
    have h2 := Re.gens_len xs (n + 1)
    have h3 := Re.galt_len xs n (n + Re.asize xs)
    rw [Re.gen, Re.csize]
    by_cases o2 : p.op = 2
    · rw [if_pos o2, if_pos (.inl o2)]; rfl
    rw [if_neg o2]
    by_cases o7 : p.op = 7
    · rw [if_pos o7, if_pos (.inr (.inl o7))]; rfl
    rw [if_neg o7]
    by_cases o8 : p.op = 8
    · rw [if_pos o8, if_pos (.inr (.inr o8))]; rfl
    have o278 : ¬ (p.op = 2 ∨ p.op = 7 ∨ p.op = 8) := by omega
    rw [if_neg o8, if_neg o278]
    by_cases o4 : p.op = 4
    · rw [if_pos o4, if_pos o4]; exact h3
    rw [if_neg o4, if_neg o4]
    by_cases o5 : p.op = 5
    · rw [if_pos o5, if_pos o5]
      by_cases hl : p.lo = 1
      · rw [if_pos hl, if_pos hl]; simp [h1]
      · rw [if_neg hl, if_neg hl]
        by_cases hh : p.hi < 0
        · simp [hh, h2]
        · simp [hh, h2]
    · rw [if_neg o5, if_neg o5]; exact h1
theorem Re.gens_len : ∀ (xs : List Re) (n : Nat), (Re.gens xs n).length = Re.csizes xs
  | [], n => by rw [Re.gens, Re.csizes]; rfl
  | t :: ts, n => by rw [Re.gens, Re.csizes, List.length_append, Re.gen_len t n, Re.gens_len ts _]
theorem Re.galt_len : ∀ (xs : List Re) (n fin : Nat), (Re.galt xs n fin).length = Re.asize xs
  | [], n, fin => by rw [Re.galt, Re.asize]; rfl
  | t :: ts, n, fin => by
    have h1 := Re.gen_len t n
    have h2 := Re.gen_len t (n + 1)
    have h3 := Re.galt_len ts (n + t.csize + 2) fin
    rw [Re.galt, Re.asize]
    by_cases h : ts.isEmpty = true
    · rw [if_pos h, if_pos h]; exact h1
    · rw [if_neg h, if_neg h]; simp [h2, h3]; omega
end

/-- The slice value v owns the instructions L. -/
def OwnI (w : World) (base : Nat) (v : Value) (L : List Inst) : Prop := w.ownsRow base 43 7 v L.length (L.flatMap Inst.cells)
theorem flatI_len (L : List Inst) : (L.flatMap Inst.cells).length = L.length * 7 := by
  induction L with
  | nil => rfl
  | cons f l ih => simp [List.flatMap_cons, ih, Inst.cells]; omega
theorem flatI_get (L : List Inst) : ∀ (k : Nat) (f : Inst) (i : Nat), L[k]? = some f → i < 7 → (L.flatMap Inst.cells)[k * 7 + i]? = f.cells[i]? := by
  induction L with
  | nil => intro k f i h; simp at h
  | cons a l ih =>
    intro k f i h hi
    cases k with
    | zero =>
      simp at h
      subst h
      rw [List.flatMap_cons, Nat.zero_mul, Nat.zero_add, List.getElem?_append_left (by simp [Inst.cells]; omega)]
    | succ k =>
      rw [List.flatMap_cons, List.getElem?_append_right (by simp [Inst.cells]; omega)]
      have : (k + 1) * 7 + i - a.cells.length = k * 7 + i := by simp [Inst.cells]; omega
      rw [this]
      exact ih k f i (by simpa using h) hi
theorem flatI_x : ∀ (L : List Inst) (k : Nat) (f : Inst) (v : Int), L[k]? = some f → (L.flatMap Inst.cells).set (k * 7 + 5) (.int .i64 v) = (L.set k { f with x := v }).flatMap Inst.cells
  | a :: l, 0, f, v, h => by
    simp at h
    subst h
    rfl
  | a :: l, k + 1, f, v, h => by
    have ih := flatI_x l k f v (by simpa using h)
    rw [List.set_cons_succ, List.flatMap_cons, List.flatMap_cons, ← ih, show (k + 1) * 7 + 5 = (k * 7 + 5) + 7 by omega]
    rfl
theorem flatI_y : ∀ (L : List Inst) (k : Nat) (f : Inst) (v : Int), L[k]? = some f → (L.flatMap Inst.cells).set (k * 7 + 6) (.int .i64 v) = (L.set k { f with y := v }).flatMap Inst.cells
  | a :: l, 0, f, v, h => by
    simp at h
    subst h
    rfl
  | a :: l, k + 1, f, v, h => by
    have ih := flatI_y l k f v (by simpa using h)
    rw [List.set_cons_succ, List.flatMap_cons, List.flatMap_cons, ← ih, show (k + 1) * 7 + 6 = (k * 7 + 6) + 7 by omega]
    rfl
theorem OwnI.nil (w : World) (base : Nat) : OwnI w base (.slice none 0 0) [] := World.ownsRow_nil _ _ _ _
theorem OwnI.lt {w : World} {base : Nat} {v : Value} {L : List Inst} (h : OwnI w base v L) : ∀ g, v.ownBlock = some g → base ≤ g ∧ g < w.heap.size := World.ownsRow.lt h
theorem OwnI.alloc {w : World} {base : Nat} {v : Value} {L : List Inst} (h : OwnI w base v L) (o : Obj) : OwnI (w.alloc o) base v L := World.ownsRow.alloc h o
theorem OwnI.below {w w' : World} {base : Nat} {v : Value} {L : List Inst} (h : OwnI w base v L) (hb : Below w.heap.size w w') : OwnI w' base v L :=
  World.ownsRow.kept h (row := none) ⟨hb.os, hb.tape, hb.output, hb.size, fun j hj _ => hb.block j hj⟩ (by
    cases hv : v.ownBlock with
    | none => exact .inl rfl
    | some g => exact .inr fun e => by cases e)
theorem OwnI.but {w w' : World} {base M : Nat} {v : Value} {L : List Inst} (h : OwnI w base v L) (hb : But [M] w w') (hM : M < base) : OwnI w' base v L :=
  World.ownsRow.kept h (row := some M) ⟨hb.os, hb.tape, hb.output, hb.size, fun j hj hn => hb.block j hj (by simp; intro e; exact hn (by rw [e]))⟩ (by
    cases hv : v.ownBlock with
    | none => exact .inl rfl
    | some g => refine .inr fun e => ?_; cases e; have := h.lt _ hv; omega)
theorem OwnI.form {w : World} {base : Nat} {v : Value} {L : List Inst} (h : OwnI w base v L) : ∃ a c, v = .slice a L.length c := ownsRow_shape h
/-- A list that is not empty: its block, and the cells of its elements. -/
theorem OwnI.elem {w : World} {base : Nat} {a : Option Addr} {n c : Nat} {L : List Inst} (h : OwnI w base (.slice a n c) L) (k : Nat) (f : Inst) (hk : L[k]? = some f) : n = L.length ∧ ∃ g, a = some ⟨g, 0, none⟩ ∧ base ≤ g ∧ g < w.heap.size ∧ CellsAt w g (k * 7) f.cells ∧ (∀ i, w.frozen? ⟨g, i, none⟩ = false) ∧
    (∀ v, OwnI (w.setCell ⟨g, k * 7 + 5, none⟩ (.int .i64 v)) base (.slice a n c) (L.set k { f with x := v })) ∧ (∀ v, OwnI (w.setCell ⟨g, k * 7 + 6, none⟩ (.int .i64 v)) base (.slice a n c) (L.set k { f with y := v })) := by
  have hkl : k < L.length := (List.getElem?_eq_some_iff.1 hk).1
  obtain ⟨g, cap, hv, hg1, hg2⟩ := World.ownsRow.form h (by omega)
  injection hv with e1 e2 e3
  subst e1 e2 e3
  refine ⟨rfl, g, rfl, hg1, hg2, fun i v hi => ?_, fun i => World.ownsRow.frozenAt h i, fun v => ?_, fun v => ?_⟩
  · have hi7 : i < 7 := by
      rcases Nat.lt_or_ge i 7 with h1 | h1
      · exact h1
      · simp [Inst.cells, h1] at hi
    rw [World.ownsRow.cellAt h (k * 7 + i) (by omega), flatI_get L k f i hk hi7, hi]
  · have h1 := (World.ownsRow.stored h (k * 7 + 5) (.int .i64 v)).1
    rw [flatI_x L k f v hk] at h1
    unfold OwnI
    rw [List.length_set]
    exact h1
  · have h1 := (World.ownsRow.stored h (k * 7 + 6) (.int .i64 v)).1
    rw [flatI_y L k f v hk] at h1
    unfold OwnI
    rw [List.length_set]
    exact h1
end Go.Proofs.Ytnjcfggadeakpaa

/- The small functions on lengths: what each call returns. -/
namespace Go.Proofs.Ytnjcfggadeakpaa
open Go.RowKit

/-- A length: -1 (no bound), or a number up to 2^31 - 1. -/
def Len (a : Int) : Prop := -1 ≤ a ∧ a ≤ 2147483647

def lsum (a b : Int) : Int := if a < 0 ∨ b < 0 then -1 else min 2147483647 (a + b)
def ltimes (a n : Int) : Int := if a = 0 ∨ n = 0 then 0 else if a < 0 ∨ n < 0 then -1 else min 2147483647 (a * n)

theorem Len.lsum {a b : Int} (ha : Len a) (hb : Len b) : Len (lsum a b) := by
  unfold Len at *; unfold Proofs.Ytnjcfggadeakpaa.lsum; split <;> omega
theorem Len.ltimes {a n : Int} (ha : Len a) : Len (ltimes a n) := by
  unfold Len at *; unfold Proofs.Ytnjcfggadeakpaa.ltimes
  split
  · omega
  split
  · omega
  · have : 0 ≤ a * n := Int.mul_nonneg (by omega) (by omega)
    omega




theorem mul_bd {a n : Int} (ha : 0 ≤ a) (ha2 : a ≤ 2147483647) (hn : 0 ≤ n) (hn2 : n ≤ 64) : 0 ≤ a * n ∧ a * n ≤ 137438953408 :=
  ⟨Int.mul_nonneg ha hn, by have := Int.mul_le_mul ha2 hn2 hn (by decide : (0 : Int) ≤ 2147483647); omega⟩



/-- The number of nodes of what stands for a repetition of n nodes. -/
def weightL (n lo hi : Int) : Int :=
  if (lo = 0 ∧ (hi = 1 ∨ hi = -1)) ∨ (lo = 1 ∧ hi = -1) then n + 1 else if hi = 0 then 1 else if lo = 1 ∧ hi = 1 then n else if hi = lo then 1 + lo * n else if hi = -1 then 2 + lo * n else 1 + lo * n + (hi - lo) * (n + 1)

theorem limited_any (n : Int) (w : World) :
    Calls Try.prog 70 #[.int .i64 n] w fun e w' => e = .returned (.int .i64 (min 4097 n)) ∧ w = w' := by
  go_enter Try.func70, Try.ntmps70
  go_wp2
  all_goals (go_ret; exact ⟨ret_int (by omega), rfl⟩)


end Go.Proofs.Ytnjcfggadeakpaa

/- The list of a set's bytes. -/
namespace Go.Proofs.Ytnjcfggadeakpaa
open Go.RowKit

def Cs.nums (s : Cs) (k : Nat) : List Int := ((List.range k).filter s.has).map Int.ofNat
theorem Cs.nums_succ (s : Cs) (k : Nat) : s.nums (k + 1) = s.nums k ++ if s.has k then [(k : Int)] else [] := by
  unfold Cs.nums
  rw [List.range_succ, List.filter_append, List.map_append]
  by_cases h : s.has k <;> simp [h]
theorem Cs.nums_le (s : Cs) (k : Nat) : (s.nums k).length ≤ k := by
  unfold Cs.nums
  rw [List.length_map]
  exact Nat.le_trans (List.length_filter_le _ _) (by simp)
/-- The bytes of a set, in ascending order. -/
def Cs.str (s : Cs) : ByteArray := strOfNums (s.nums 256)

theorem info_u8 : (Try.prog.info? 5).map (fun i => (i.zero, i.size, i.bytes)) = some (some (.int .u8 0), 1, 1) := by kernel_rfl

end Go.Proofs.Ytnjcfggadeakpaa

/- What is known of a tree: nullable, lengths, first bytes. The program's cat and alt of two such facts. -/
namespace Go.Proofs.Ytnjcfggadeakpaa
open Go.RowKit
attribute [local go_sem] gives givesUpon

-- def FA := .agg #[.bool a.null, .int .i64 a.least, .int .i64 a.most, .int .u64 a.first.a, .int .u64 a.first.b, .int .u64 a.first.c, .int .u64 a.first.d]
-- def FB := .agg #[.bool b.null, .int .i64 b.least, .int .i64 b.most, .int .u64 b.first.a, .int .u64 b.first.b, .int .u64 b.first.c, .int .u64 b.first.d]
-- def CA := [.bool a.null, .int .i64 a.least, .int .i64 a.most, .int .u64 a.first.a, .int .u64 a.first.b, .int .u64 a.first.c, .int .u64 a.first.d]
-- def CB := [.bool b.null, .int .i64 b.least, .int .i64 b.most, .int .u64 b.first.a, .int .u64 b.first.b, .int .u64 b.first.c, .int .u64 b.first.d]
-- def C0 := [.bool false, .int .i64 0, .int .i64 0, .int .u64 0, .int .u64 0, .int .u64 0, .int .u64 0]

def Grow (x y : World) : Prop := Below x.heap.size x y
theorem Grow.refl (x : World) : Grow x x := Below.refl _ x
theorem Grow.trans {x y z : World} (h : Grow x y) (k : Grow y z) : Grow x z := Below.trans h (k.mono h.size)
theorem Grow.alloc (x : World) (o : Obj) : Grow x (x.alloc o) := (Below.refl _ x).alloc (Nat.le_refl _) _
theorem Grow.size {x y : World} (h : Grow x y) : x.heap.size ≤ y.heap.size := Below.size h

structure Facts where
  null : Bool
  least : Int
  most : Int
  first : Cs
deriving DecidableEq
structure Facts.wf (f : Facts) : Prop where
  least : Len f.least
  most : Len f.most
  first : f.first.wf
def Facts.cells (f : Facts) : List Value := [.bool f.null, .int .i64 f.least, .int .i64 f.most, .int .u64 f.first.a, .int .u64 f.first.b, .int .u64 f.first.c, .int .u64 f.first.d]
def Facts.cat (a b : Facts) : Facts := ⟨a.null && b.null, lsum a.least b.least, lsum a.most b.most, if a.null then a.first.union b.first else a.first⟩
def Facts.alt (a b : Facts) : Facts := ⟨a.null || b.null, min a.least b.least, if a.most < 0 ∨ b.most < 0 then -1 else max a.most b.most, a.first.union b.first⟩

theorem Row.c7f {w : World} {B : Nat} {a b c d e f g : Value} {T : TypeId} (h : Row w B [a, b, c, d, e, f, g] T) :
    (w.cell? ⟨B, 0, none⟩ = some a ∧ w.cell? ⟨B, 1, none⟩ = some b ∧ w.cell? ⟨B, 2, none⟩ = some c ∧ w.cell? ⟨B, 3, none⟩ = some d ∧ w.cell? ⟨B, 4, none⟩ = some e ∧ w.cell? ⟨B, 5, none⟩ = some f ∧ w.cell? ⟨B, 6, none⟩ = some g) ∧
    (w.frozen? ⟨B, 0, none⟩ = false ∧ w.frozen? ⟨B, 1, none⟩ = false ∧ w.frozen? ⟨B, 2, none⟩ = false ∧ w.frozen? ⟨B, 3, none⟩ = false ∧ w.frozen? ⟨B, 4, none⟩ = false ∧ w.frozen? ⟨B, 5, none⟩ = false ∧ w.frozen? ⟨B, 6, none⟩ = false) :=
  ⟨⟨h.cell 0, h.cell 1, h.cell 2, h.cell 3, h.cell 4, h.cell 5, h.cell 6⟩, h.free 0, h.free 1, h.free 2, h.free 3, h.free 4, h.free 5, h.free 6⟩

theorem Row.set7 {w : World} {B : Nat} {a b c d e f g : Value} {T : TypeId} (h : Row w B [a, b, c, d, e, f, g] T) (a' b' c' d' e' f' g' : Value) : Row (((((((w.setCell ⟨B, 0, none⟩ a').setCell ⟨B, 1, none⟩ b').setCell ⟨B, 2, none⟩ c').setCell ⟨B, 3, none⟩ d').setCell ⟨B, 4, none⟩ e').setCell ⟨B, 5, none⟩ f').setCell ⟨B, 6, none⟩ g') B [a', b', c', d', e', f', g'] T :=
  ((((((h.set 0 _).set 1 _).set 2 _).set 3 _).set 4 _).set 5 _).set 6 _
theorem Row.other7 {w : World} {B B' : Nat} {cs : List Value} {T : TypeId} (h : Row w B cs T) (hn : B ≠ B') (a' b' c' d' e' f' g' : Value) : Row (((((((w.setCell ⟨B', 0, none⟩ a').setCell ⟨B', 1, none⟩ b').setCell ⟨B', 2, none⟩ c').setCell ⟨B', 3, none⟩ d').setCell ⟨B', 4, none⟩ e').setCell ⟨B', 5, none⟩ f').setCell ⟨B', 6, none⟩ g') B cs T :=
  ((((((h.other hn _ _).other hn _ _).other hn _ _).other hn _ _).other hn _ _).other hn _ _).other hn _ _
theorem below7 {n : Nat} {w x : World} {B : Nat} (h : Below n w x) (hB : n ≤ B) (a' b' c' d' e' f' g' : Value) : Below n w (((((((x.setCell ⟨B, 0, none⟩ a').setCell ⟨B, 1, none⟩ b').setCell ⟨B, 2, none⟩ c').setCell ⟨B, 3, none⟩ d').setCell ⟨B, 4, none⟩ e').setCell ⟨B, 5, none⟩ f').setCell ⟨B, 6, none⟩ g') :=
  ((((((h.setCell hB _).setCell hB _).setCell hB _).setCell hB _).setCell hB _).setCell hB _).setCell hB _

end Go.Proofs.Ytnjcfggadeakpaa

/- The program's builder: what it keeps; add and split. -/
namespace Go.Proofs.Ytnjcfggadeakpaa
open Go.RowKit
attribute [local go_sem] gives givesUpon

theorem grownB {w w' : World} {v : Value} {base : Nat} (h : w.grownBy w' v.ownBlock) (hv : ∀ g, v.ownBlock = some g → base ≤ g) (k : Nat) (h1 : k < base) (h2 : k < w.heap.size) : w'.heap[k]? = w.heap[k]? :=
  h.block k h2 (fun e => by have := hv k e.symm; omega)
/-- What add does to the list, to the mark 'over', and what it returns. -/
def addL (L : List Inst) (x : Inst) : List Inst := if 4096 ≤ L.length then L else L ++ [x]
def addO (L : List Inst) (ov : Bool) : Bool := if 4096 ≤ L.length then true else ov
def addK (L : List Inst) : Nat := if 4096 ≤ L.length then 0 else L.length
def setX (L : List Inst) (k : Nat) (v : Int) : List Inst := match L[k]? with | some f => L.set k { f with x := v } | none => L
def setY (L : List Inst) (k : Nat) (v : Int) : List Inst := match L[k]? with | some f => L.set k { f with y := v } | none => L
theorem setX_len (L : List Inst) (k : Nat) (v : Int) : (setX L k v).length = L.length := by unfold setX; split <;> simp
theorem setY_len (L : List Inst) (k : Nat) (v : Int) : (setY L k v).length = L.length := by unfold setY; split <;> simp
/-- Only the builder's block and its list's block have changed. -/
structure FrB (BB : Nat) (go : Option Nat) (w w' : World) : Prop where
  os : w'.os = w.os
  tape : w'.tape = w.tape
  output : w'.output = w.output
  size : w.heap.size ≤ w'.heap.size
  block : ∀ k, k < w.heap.size → k ≠ BB → go ≠ some k → w'.heap[k]? = w.heap[k]?
/-- The list's block is the old one or a new one. -/
def GoTo (w : World) (go go' : Option Nat) : Prop := go' = go ∨ ∃ g, go' = some g ∧ w.heap.size ≤ g
theorem FrB.refl (BB : Nat) (go : Option Nat) (w : World) : FrB BB go w w := ⟨rfl, rfl, rfl, Nat.le_refl _, fun _ _ _ _ => rfl⟩
theorem FrB.trans {BB : Nat} {go go' : Option Nat} {a b c : World} (h : FrB BB go a b) (hg : GoTo a go go') (k : FrB BB go' b c) : FrB BB go a c :=
  ⟨k.os.trans h.os, k.tape.trans h.tape, k.output.trans h.output, Nat.le_trans h.size k.size, fun j hj h1 h2 => (k.block j (Nat.lt_of_lt_of_le hj h.size) h1 (by
    rcases hg with hg | ⟨g, hg, hge⟩
    · rw [hg]; exact h2
    · rw [hg]; intro e; injection e with e; omega)).trans (h.block j hj h1 h2)⟩
theorem GoTo.trans {a b : World} {g1 g2 g3 : Option Nat} (h : GoTo a g1 g2) (hs : a.heap.size ≤ b.heap.size) (k : GoTo b g2 g3) : GoTo a g1 g3 := by
  rcases k with k | ⟨g, k, hk⟩
  · rw [k]; exact h
  · exact .inr ⟨g, k, Nat.le_trans hs hk⟩
theorem FrB.of_below {BB : Nat} {go : Option Nat} {w w' : World} (h : Below w.heap.size w w') : FrB BB go w w' := ⟨h.os, h.tape, h.output, h.size, fun k hk _ _ => h.block k hk⟩
theorem FrB.below {BB n : Nat} {go : Option Nat} {w w' : World} (h : FrB BB go w w') (hn : n ≤ w.heap.size) (h1 : n ≤ BB) (h2 : ∀ g, go = some g → n ≤ g) : Below n w w' :=
  ⟨h.os, h.tape, h.output, Nat.le_trans hn h.size |> fun _ => h.size, fun k hk => h.block k (by omega) (by omega) (fun e => by have := h2 k e; omega)⟩
theorem Row.c2 {w : World} {B : Nat} {a b : Value} {T : TypeId} (h : Row w B [a, b] T) : (w.cell? ⟨B, 0, none⟩ = some a ∧ w.cell? ⟨B, 1, none⟩ = some b) ∧ (w.frozen? ⟨B, 0, none⟩ = false ∧ w.frozen? ⟨B, 1, none⟩ = false) := ⟨⟨h.cell 0, h.cell 1⟩, h.free 0, h.free 1⟩
theorem info_inst : (Try.prog.info? 43).map (fun i => (i.zero, i.size, i.bytes)) = some (some (.agg #[.int .i64 0, .int .u64 0, .int .u64 0, .int .u64 0, .int .u64 0, .int .i64 0, .int .i64 0]), 7, 56) := by kernel_rfl

end Go.Proofs.Ytnjcfggadeakpaa

/- The program's builder: a field of an instruction is set; split. -/
namespace Go.Proofs.Ytnjcfggadeakpaa
open Go.RowKit
attribute [local go_sem] gives givesUpon

theorem addL_len (L : List Inst) (i : Inst) (h : L.length ≤ 4096) : addK L < (addL L i).length ∧ (addL L i).length ≤ 4096 := by
  unfold addK addL
  by_cases hf : 4096 ≤ L.length
  · rw [if_pos hf, if_pos hf]; omega
  · rw [if_neg hf, if_neg hf]; simp; omega
theorem CellsAt.c7i {w : World} {b o : Nat} {f : Inst} (h : CellsAt w b o f.cells) : w.cell? ⟨b, o, none⟩ = some (.int .i64 f.op) ∧ w.cell? ⟨b, o + 1, none⟩ = some (.int .u64 f.set.a) ∧ w.cell? ⟨b, o + 2, none⟩ = some (.int .u64 f.set.b) ∧ w.cell? ⟨b, o + 3, none⟩ = some (.int .u64 f.set.c) ∧ w.cell? ⟨b, o + 4, none⟩ = some (.int .u64 f.set.d) ∧ w.cell? ⟨b, o + 5, none⟩ = some (.int .i64 f.x) ∧ w.cell? ⟨b, o + 6, none⟩ = some (.int .i64 f.y) :=
  ⟨h 0 _ rfl, h 1 _ rfl, h 2 _ rfl, h 3 _ rfl, h 4 _ rfl, h 5 _ rfl, h 6 _ rfl⟩

def splitL (L : List Inst) : List Inst := setX (addL L (isplit 0 0)) (addK L) ((addK L : Nat) + 1)
theorem splitL_len (L : List Inst) : (splitL L).length = (addL L (isplit 0 0)).length := setX_len _ _ _
end Go.Proofs.Ytnjcfggadeakpaa
