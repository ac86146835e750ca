/- The code of a tree: the plain law, and lists of instructions in the memory. -/
import Derived.Test.YthnpbopnpdlmnaaDoorA03
import Derived.Laws.OwnMore
import Derived.Deep.AppendLies
import Derived.Test.YthnpbopnpdlmnaaDoorProg
import Derived.Test.YthnpbopnpdlmnaaDoorA01
import Derived.Test.YthnpbopnpdlmnaaDoorA02
import Derived.Deep.RegionLaw
namespace Go.Proofs.YthnpbopnpdlmnaaDoor
open Go.RowKit

structure Inst where
  op : Int
  set : Cs
  x : Int
  y : Int
deriving DecidableEq
def Inst.cells (i : Inst) : List Value := [.int .i64 i.op, .int .u64 i.set.a, .int .u64 i.set.b, .int .u64 i.set.c, .int .u64 i.set.d, .int .i64 i.x, .int .i64 i.y]
def Inst.of (op : Int) : Inst := ⟨op, Cs.none, 0, 0⟩
def isplit (x y : Int) : Inst := ⟨2, Cs.none, x, y⟩
def ijump (x : Int) : Inst := ⟨3, Cs.none, x, 0⟩

mutual
def Re.csize : Re → Nat
  | .mk p xs => if p.op = 2 ∨ p.op = 7 ∨ p.op = 8 then 1 else if p.op = 4 then Re.asize xs else if p.op = 5 then (if p.lo = 1 then Re.csizes xs + 1 else Re.csizes xs + 1 + (if p.hi < 0 then 1 else 0)) else Re.csizes xs
def Re.csizes : List Re → Nat
  | [] => 0
  | t :: ts => t.csize + Re.csizes ts
def Re.asize : List Re → Nat
  | [] => 0
  | t :: ts => t.csize + (if ts.isEmpty then 0 else 2 + Re.asize ts)
end
mutual
def Re.gen : Re → Nat → List Inst
  | .mk p xs, n => if p.op = 2 then [⟨1, p.set, 0, 0⟩] else if p.op = 7 then [Inst.of 4] else if p.op = 8 then [Inst.of 5] else if p.op = 4 then Re.galt xs n (n + Re.asize xs)
    else if p.op = 5 then (if p.lo = 1 then Re.gens xs n ++ [isplit n (n + Re.csizes xs + 1 : Nat)]
      else isplit (n + 1 : Nat) (n + 1 + Re.csizes xs + (if p.hi < 0 then 1 else 0) : Nat) :: (Re.gens xs (n + 1) ++ (if p.hi < 0 then [ijump n] else [])))
    else Re.gens xs n
def Re.gens : List Re → Nat → List Inst
  | [], _ => []
  | t :: ts, n => t.gen n ++ Re.gens ts (n + t.csize)
def Re.galt : List Re → Nat → Nat → List Inst
  | [], _, _ => []
  | t :: ts, n, fin => if ts.isEmpty then t.gen n else isplit (n + 1 : Nat) (n + t.csize + 2 : Nat) :: (t.gen (n + 1) ++ [ijump fin] ++ Re.galt ts (n + t.csize + 2) fin)
end
mutual
theorem Re.gen_len : ∀ (t : Re) (n : Nat), (t.gen n).length = t.csize
  | .mk p xs, n => by
    have h1 := Re.gens_len xs n
    have h2 := Re.gens_len xs (n + 1)
    have h3 := Re.galt_len xs n (n + Re.asize xs)
    rw [Re.gen, Re.csize]
    by_cases o2 : p.op = 2
    · rw [if_pos o2, if_pos (.inl o2)]; rfl
    rw [if_neg o2]
    by_cases o7 : p.op = 7
    · rw [if_pos o7, if_pos (.inr (.inl o7))]; rfl
    rw [if_neg o7]
    by_cases o8 : p.op = 8
    · rw [if_pos o8, if_pos (.inr (.inr o8))]; rfl
    have o278 : ¬ (p.op = 2 ∨ p.op = 7 ∨ p.op = 8) := by omega
    rw [if_neg o8, if_neg o278]
    by_cases o4 : p.op = 4
    · rw [if_pos o4, if_pos o4]; exact h3
    rw [if_neg o4, if_neg o4]
    by_cases o5 : p.op = 5
    · rw [if_pos o5, if_pos o5]
      by_cases hl : p.lo = 1
      · rw [if_pos hl, if_pos hl]; simp [h1]
      · rw [if_neg hl, if_neg hl]
        by_cases hh : p.hi < 0
        · simp [hh, h2]
        · simp [hh, h2]
    · rw [if_neg o5, if_neg o5]; exact h1
theorem Re.gens_len : ∀ (xs : List Re) (n : Nat), (Re.gens xs n).length = Re.csizes xs
  | [], n => by rw [Re.gens, Re.csizes]; rfl
  | t :: ts, n => by rw [Re.gens, Re.csizes, List.length_append, Re.gen_len t n, Re.gens_len ts _]
theorem Re.galt_len : ∀ (xs : List Re) (n fin : Nat), (Re.galt xs n fin).length = Re.asize xs
  | [], n, fin => by rw [Re.galt, Re.asize]; rfl
  | t :: ts, n, fin => by
    have h1 := Re.gen_len t n
    have h2 := Re.gen_len t (n + 1)
    have h3 := Re.galt_len ts (n + t.csize + 2) fin
    rw [Re.galt, Re.asize]
    by_cases h : ts.isEmpty = true
    · rw [if_pos h, if_pos h]; exact h1
    · rw [if_neg h, if_neg h]; simp [h2, h3]; omega
end

def OwnI (w : World) (base : Nat) (v : Value) (L : List Inst) : Prop := w.ownsRow base 53 7 v L.length (L.flatMap Inst.cells)
theorem flatI_get (L : List Inst) : ∀ (k : Nat) (f : Inst) (i : Nat), L[k]? = some f → i < 7 → (L.flatMap Inst.cells)[k * 7 + i]? = f.cells[i]? := by
  induction L with
  | nil => intro k f i h; simp at h
  | cons a l ih =>
    intro k f i h hi
    cases k with
    | zero =>
      simp at h
      subst h
      rw [List.flatMap_cons, Nat.zero_mul, Nat.zero_add, List.getElem?_append_left (by simp [Inst.cells]; omega)]
    | succ k =>
      rw [List.flatMap_cons, List.getElem?_append_right (by simp [Inst.cells]; omega)]
      have : (k + 1) * 7 + i - a.cells.length = k * 7 + i := by simp [Inst.cells]; omega
      rw [this]
      exact ih k f i (by simpa using h) hi
theorem flatI_x : ∀ (L : List Inst) (k : Nat) (f : Inst) (v : Int), L[k]? = some f → (L.flatMap Inst.cells).set (k * 7 + 5) (.int .i64 v) = (L.set k { f with x := v }).flatMap Inst.cells
  | a :: l, 0, f, v, h => by
    simp at h
    subst h
    rfl
  | a :: l, k + 1, f, v, h => by
    have ih := flatI_x l k f v (by simpa using h)
    rw [List.set_cons_succ, List.flatMap_cons, List.flatMap_cons, ← ih, show (k + 1) * 7 + 5 = (k * 7 + 5) + 7 by omega]
    rfl
theorem flatI_y : ∀ (L : List Inst) (k : Nat) (f : Inst) (v : Int), L[k]? = some f → (L.flatMap Inst.cells).set (k * 7 + 6) (.int .i64 v) = (L.set k { f with y := v }).flatMap Inst.cells
  | a :: l, 0, f, v, h => by
    simp at h
    subst h
    rfl
  | a :: l, k + 1, f, v, h => by
    have ih := flatI_y l k f v (by simpa using h)
    rw [List.set_cons_succ, List.flatMap_cons, List.flatMap_cons, ← ih, show (k + 1) * 7 + 6 = (k * 7 + 6) + 7 by omega]
    rfl
theorem OwnI.nil (w : World) (base : Nat) : OwnI w base (.slice none 0 0) [] := World.ownsRow_nil _ _ _ _
theorem OwnI.lt {w : World} {base : Nat} {v : Value} {L : List Inst} (h : OwnI w base v L) : ∀ g, v.ownBlock = some g → base ≤ g ∧ g < w.heap.size := World.ownsRow.lt h
theorem OwnI.alloc {w : World} {base : Nat} {v : Value} {L : List Inst} (h : OwnI w base v L) (o : Obj) : OwnI (w.alloc o) base v L := World.ownsRow.alloc h o
theorem OwnI.below {w w' : World} {base : Nat} {v : Value} {L : List Inst} (h : OwnI w base v L) (hb : Below w.heap.size w w') : OwnI w' base v L :=
  World.ownsRow.kept h (row := none) ⟨hb.os, hb.tape, hb.output, hb.size, fun j hj _ => hb.block j hj⟩ (by
    cases hv : v.ownBlock with
    | none => exact .inl rfl
    | some g => exact .inr fun e => by cases e)
theorem OwnI.but {w w' : World} {base M : Nat} {v : Value} {L : List Inst} (h : OwnI w base v L) (hb : But [M] w w') (hM : M < base) : OwnI w' base v L :=
  World.ownsRow.kept h (row := some M) ⟨hb.os, hb.tape, hb.output, hb.size, fun j hj hn => hb.block j hj (by simp; intro e; exact hn (by rw [e]))⟩ (by
    cases hv : v.ownBlock with
    | none => exact .inl rfl
    | some g => refine .inr fun e => ?_; cases e; have := h.lt _ hv; omega)
theorem OwnI.form {w : World} {base : Nat} {v : Value} {L : List Inst} (h : OwnI w base v L) : ∃ a c, v = .slice a L.length c := ownsRow_shape h
theorem OwnI.elem {w : World} {base : Nat} {a : Option Addr} {n c : Nat} {L : List Inst} (h : OwnI w base (.slice a n c) L) (k : Nat) (f : Inst) (hk : L[k]? = some f) : n = L.length ∧ ∃ g, a = some ⟨g, 0, none⟩ ∧ base ≤ g ∧ g < w.heap.size ∧ CellsAt w g (k * 7) f.cells ∧ (∀ i, w.frozen? ⟨g, i, none⟩ = false) ∧
    (∀ v, OwnI (w.setCell ⟨g, k * 7 + 5, none⟩ (.int .i64 v)) base (.slice a n c) (L.set k { f with x := v })) ∧ (∀ v, OwnI (w.setCell ⟨g, k * 7 + 6, none⟩ (.int .i64 v)) base (.slice a n c) (L.set k { f with y := v })) := by
  have hkl : k < L.length := (List.getElem?_eq_some_iff.1 hk).1
  obtain ⟨g, cap, hv, hg1, hg2⟩ := World.ownsRow.form h (by omega)
  injection hv with e1 e2 e3
  subst e1 e2 e3
  refine ⟨rfl, g, rfl, hg1, hg2, fun i v hi => ?_, fun i => World.ownsRow.frozenAt h i, fun v => ?_, fun v => ?_⟩
  · have hi7 : i < 7 := by
      rcases Nat.lt_or_ge i 7 with h1 | h1
      · exact h1
      · simp [Inst.cells, h1] at hi
    rw [World.ownsRow.cellAt h (k * 7 + i) (by omega), flatI_get L k f i hk hi7, hi]
  · have h1 := (World.ownsRow.stored h (k * 7 + 5) (.int .i64 v)).1
    rw [flatI_x L k f v hk] at h1
    unfold OwnI
    rw [List.length_set]
    exact h1
  · have h1 := (World.ownsRow.stored h (k * 7 + 6) (.int .i64 v)).1
    rw [flatI_y L k f v hk] at h1
    unfold OwnI
    rw [List.length_set]
    exact h1
end Go.Proofs.YthnpbopnpdlmnaaDoor

/- The small functions on lengths: what each call returns. -/
namespace Go.Proofs.YthnpbopnpdlmnaaDoor
open Go.RowKit

def Len (a : Int) : Prop := -1 ≤ a ∧ a ≤ 2147483647

def weightL (n lo hi : Int) : Int :=
  if (lo = 0 ∧ (hi = 1 ∨ hi = -1)) ∨ (lo = 1 ∧ hi = -1) then n + 1 else if hi = 0 then 1 else if lo = 1 ∧ hi = 1 then n else if hi = lo then 1 + lo * n else if hi = -1 then 2 + lo * n else 1 + lo * n + (hi - lo) * (n + 1)


theorem weight_any (n lo hi : Int) (w : World) (hn : 0 ≤ n ∧ n ≤ 1073741824) (hlo : 0 ≤ lo ∧ lo ≤ 64) (hhi : hi = -1 ∨ (lo ≤ hi ∧ hi ≤ 64)) :
    Calls Tryd.prog 42 #[.int .i64 n, .int .i64 lo, .int .i64 hi] w fun e w' => e = .returned (.int .i64 (weightL n lo hi)) ∧ w = w' := by
  obtain ⟨hn1, hn2⟩ := hn
  obtain ⟨hl1, hl2⟩ := hlo
  by_cases c1 : (lo = 0 ∧ (hi = 1 ∨ hi = -1)) ∨ (lo = 1 ∧ hi = -1)
  · have e1 : weightL n lo hi = n + 1 := by unfold weightL; rw [if_pos c1]
    rw [e1]
    rcases c1 with ⟨rfl, rfl | rfl⟩ | ⟨rfl, rfl⟩
    all_goals
      clear e1 hhi
      go_enter Tryd.func42, Tryd.ntmps42
      go_wp2
      all_goals (go_ret; exact ⟨ret_int (by omega), rfl⟩)
  · by_cases c2 : hi = 0
    · obtain rfl := c2
      obtain rfl : lo = 0 := by omega
      have e1 : weightL n 0 0 = 1 := by unfold weightL; rw [if_neg c1, if_pos rfl]
      rw [e1]
      clear e1 hhi c1
      go_enter Tryd.func42, Tryd.ntmps42
      go_wp2
      all_goals (go_ret; exact ⟨ret_int (by omega), rfl⟩)
    · by_cases c3 : lo = 1 ∧ hi = 1
      · obtain ⟨rfl, rfl⟩ := c3
        have e1 : weightL n 1 1 = n := by unfold weightL; rw [if_neg c1, if_neg c2, if_pos ⟨rfl, rfl⟩]
        rw [e1]
        clear e1 hhi c1 c2
        go_enter Tryd.func42, Tryd.ntmps42
        go_wp2
        all_goals (go_ret; exact ⟨ret_int (by omega), rfl⟩)
      · have hm1 : 0 ≤ lo * n := Int.mul_nonneg hl1 hn1
        have hm2 : lo * n ≤ 68719476736 := by have := Int.mul_le_mul hl2 hn2 hn1 (by decide : (0 : Int) ≤ 64); omega
        by_cases c4 : hi = lo
        · obtain rfl := c4
          have e1 : weightL n hi hi = 1 + hi * n := by unfold weightL; rw [if_neg c1, if_neg c2, if_neg c3, if_pos rfl]
          rw [e1]
          have d1 : (hi == 0) = false := by simp; omega
          have d2 : (hi == 1) = false := by simp; omega
          have d3 : (hi == -1) = false := by simp; omega
          clear e1 hhi c1 c2 c3
          go_enter Tryd.func42, Tryd.ntmps42
          go_wp2
          all_goals (go_ret; exact ⟨ret_int (by omega), rfl⟩)
        · by_cases c5 : hi = -1
          · obtain rfl := c5
            have e1 : weightL n lo (-1) = 2 + lo * n := by unfold weightL; rw [if_neg c1, if_neg c2, if_neg c3, if_neg c4, if_pos rfl]
            rw [e1]
            have d1 : (lo == 0) = false := by simp; omega
            have d2 : (lo == 1) = false := by simp; omega
            have d3 : ((-1 : Int) == lo) = false := by simp; omega
            clear e1 hhi c1 c2 c3
            go_enter Tryd.func42, Tryd.ntmps42
            go_wp2
            all_goals (go_ret; exact ⟨ret_int (by omega), rfl⟩)
          · have h6 : lo ≤ hi ∧ hi ≤ 64 := by omega
            obtain ⟨h7, h8⟩ := h6
            have e1 : weightL n lo hi = 1 + lo * n + (hi - lo) * (n + 1) := by unfold weightL; rw [if_neg c1, if_neg c2, if_neg c3, if_neg c4, if_neg c5]
            rw [e1]
            have g1 : 0 ≤ (hi - lo) * (n + 1) := Int.mul_nonneg (by omega) (by omega)
            have g2 : (hi - lo) * (n + 1) ≤ 68719476800 := by have := Int.mul_le_mul (show hi - lo ≤ 64 by omega) (show n + 1 ≤ 1073741825 by omega) (by omega) (by decide : (0 : Int) ≤ 64); omega
            have d0 : (hi == 0) = false := by simp; omega
            have d1 : (hi == lo) = false := by simp; omega
            have d3 : (hi == -1) = false := by simp; omega
            by_cases q1 : lo = 0
            · obtain rfl := q1
              have d4 : (hi == 1) = false := by simp; omega
              simp only [Int.zero_mul, Int.sub_zero] at *
              clear e1 hhi c1 c2 c3 c4 c5
              go_enter Tryd.func42, Tryd.ntmps42
              go_wp2
              all_goals (go_ret; exact ⟨ret_int (by omega), rfl⟩)
            · have d4 : (lo == 0) = false := by simp; omega
              by_cases q2 : lo = 1
              · obtain rfl := q2
                have d5 : (hi == 1) = false := by simp; omega
                clear e1 hhi c1 c2 c3 c4 c5 q1
                go_enter Tryd.func42, Tryd.ntmps42
                go_wp2
                all_goals (go_ret; exact ⟨ret_int (by omega), rfl⟩)
              · have d5 : (lo == 1) = false := by simp; omega
                clear e1 hhi c1 c2 c3 c4 c5 q1 q2
                go_enter Tryd.func42, Tryd.ntmps42
                go_wp2
                all_goals (go_ret; exact ⟨ret_int (by omega), rfl⟩)

end Go.Proofs.YthnpbopnpdlmnaaDoor

/- The list of a set's bytes. -/
namespace Go.Proofs.YthnpbopnpdlmnaaDoor
open Go.RowKit

end Go.Proofs.YthnpbopnpdlmnaaDoor

/- What is known of a tree: nullable, lengths, first bytes. The program's cat and alt of two such facts. -/
namespace Go.Proofs.YthnpbopnpdlmnaaDoor
open Go.RowKit
attribute [local go_sem] gives givesUpon


def Grow (x y : World) : Prop := Below x.heap.size x y
theorem Grow.refl (x : World) : Grow x x := Below.refl _ x
theorem Grow.trans {x y z : World} (h : Grow x y) (k : Grow y z) : Grow x z := Below.trans h (k.mono h.size)
theorem Grow.alloc (x : World) (o : Obj) : Grow x (x.alloc o) := (Below.refl _ x).alloc (Nat.le_refl _) _
theorem Grow.size {x y : World} (h : Grow x y) : x.heap.size ≤ y.heap.size := Below.size h

structure Facts where
  null : Bool
  least : Int
  most : Int
  first : Cs
deriving DecidableEq
structure Facts.wf (f : Facts) : Prop where
  least : Len f.least
  most : Len f.most
  first : f.first.wf
theorem Row.c7f {w : World} {B : Nat} {a b c d e f g : Value} {T : TypeId} (h : Row w B [a, b, c, d, e, f, g] T) :
    (w.cell? ⟨B, 0, none⟩ = some a ∧ w.cell? ⟨B, 1, none⟩ = some b ∧ w.cell? ⟨B, 2, none⟩ = some c ∧ w.cell? ⟨B, 3, none⟩ = some d ∧ w.cell? ⟨B, 4, none⟩ = some e ∧ w.cell? ⟨B, 5, none⟩ = some f ∧ w.cell? ⟨B, 6, none⟩ = some g) ∧
    (w.frozen? ⟨B, 0, none⟩ = false ∧ w.frozen? ⟨B, 1, none⟩ = false ∧ w.frozen? ⟨B, 2, none⟩ = false ∧ w.frozen? ⟨B, 3, none⟩ = false ∧ w.frozen? ⟨B, 4, none⟩ = false ∧ w.frozen? ⟨B, 5, none⟩ = false ∧ w.frozen? ⟨B, 6, none⟩ = false) :=
  ⟨⟨h.cell 0, h.cell 1, h.cell 2, h.cell 3, h.cell 4, h.cell 5, h.cell 6⟩, h.free 0, h.free 1, h.free 2, h.free 3, h.free 4, h.free 5, h.free 6⟩

end Go.Proofs.YthnpbopnpdlmnaaDoor

/- The program's builder: what it keeps; add and split. -/
namespace Go.Proofs.YthnpbopnpdlmnaaDoor
open Go.RowKit
attribute [local go_sem] gives givesUpon

theorem grownB {w w' : World} {v : Value} {base : Nat} (h : w.grownBy w' v.ownBlock) (hv : ∀ g, v.ownBlock = some g → base ≤ g) (k : Nat) (h1 : k < base) (h2 : k < w.heap.size) : w'.heap[k]? = w.heap[k]? :=
  h.block k h2 (fun e => by have := hv k e.symm; omega)
def addL (L : List Inst) (x : Inst) : List Inst := if 4096 ≤ L.length then L else L ++ [x]
def addO (L : List Inst) (ov : Bool) : Bool := if 4096 ≤ L.length then true else ov
def addK (L : List Inst) : Nat := if 4096 ≤ L.length then 0 else L.length
def setX (L : List Inst) (k : Nat) (v : Int) : List Inst := match L[k]? with | some f => L.set k { f with x := v } | none => L
def setY (L : List Inst) (k : Nat) (v : Int) : List Inst := match L[k]? with | some f => L.set k { f with y := v } | none => L
theorem setX_len (L : List Inst) (k : Nat) (v : Int) : (setX L k v).length = L.length := by unfold setX; split <;> simp
theorem setY_len (L : List Inst) (k : Nat) (v : Int) : (setY L k v).length = L.length := by unfold setY; split <;> simp
def BldAt (w : World) (BB : Nat) (go : Option Nat) (L : List Inst) (ov : Bool) : Prop := ∃ (a : Option Addr) (c : Nat), Row w BB [.slice a L.length c, .bool ov] 60 ∧ OwnI w (BB + 1) (.slice a L.length c) L ∧ L.length ≤ 4096 ∧ (Value.slice a L.length c).ownBlock = go
theorem BldAt.lt {w : World} {BB : Nat} {go : Option Nat} {L : List Inst} {ov : Bool} (h : BldAt w BB go L ov) : BB < w.heap.size := by
  obtain ⟨a, c, h1, h2, h3, h4⟩ := h
  exact h1.lt
theorem BldAt.len {w : World} {BB : Nat} {go : Option Nat} {L : List Inst} {ov : Bool} (h : BldAt w BB go L ov) : L.length ≤ 4096 := by
  obtain ⟨a, c, h1, h2, h3, h4⟩ := h
  exact h3
theorem BldAt.own {w : World} {BB : Nat} {go : Option Nat} {L : List Inst} {ov : Bool} (h : BldAt w BB go L ov) (g : Nat) (hg : go = some g) : BB + 1 ≤ g ∧ g < w.heap.size := by
  obtain ⟨a, c, h1, h2, h3, h4⟩ := h
  exact h2.lt g (h4.trans hg)
structure FrB (BB : Nat) (go : Option Nat) (w w' : World) : Prop where
  os : w'.os = w.os
  tape : w'.tape = w.tape
  output : w'.output = w.output
  size : w.heap.size ≤ w'.heap.size
  block : ∀ k, k < w.heap.size → k ≠ BB → go ≠ some k → w'.heap[k]? = w.heap[k]?
def GoTo (w : World) (go go' : Option Nat) : Prop := go' = go ∨ ∃ g, go' = some g ∧ w.heap.size ≤ g
theorem FrB.refl (BB : Nat) (go : Option Nat) (w : World) : FrB BB go w w := ⟨rfl, rfl, rfl, Nat.le_refl _, fun _ _ _ _ => rfl⟩
theorem FrB.trans {BB : Nat} {go go' : Option Nat} {a b c : World} (h : FrB BB go a b) (hg : GoTo a go go') (k : FrB BB go' b c) : FrB BB go a c :=
  ⟨k.os.trans h.os, k.tape.trans h.tape, k.output.trans h.output, Nat.le_trans h.size k.size, fun j hj h1 h2 => (k.block j (Nat.lt_of_lt_of_le hj h.size) h1 (by
    rcases hg with hg | ⟨g, hg, hge⟩
    · rw [hg]; exact h2
    · rw [hg]; intro e; injection e with e; omega)).trans (h.block j hj h1 h2)⟩
theorem GoTo.trans {a b : World} {g1 g2 g3 : Option Nat} (h : GoTo a g1 g2) (hs : a.heap.size ≤ b.heap.size) (k : GoTo b g2 g3) : GoTo a g1 g3 := by
  rcases k with k | ⟨g, k, hk⟩
  · rw [k]; exact h
  · exact .inr ⟨g, k, Nat.le_trans hs hk⟩
theorem FrB.of_below {BB : Nat} {go : Option Nat} {w w' : World} (h : Below w.heap.size w w') : FrB BB go w w' := ⟨h.os, h.tape, h.output, h.size, fun k hk _ _ => h.block k hk⟩
theorem FrB.below {BB n : Nat} {go : Option Nat} {w w' : World} (h : FrB BB go w w') (hn : n ≤ w.heap.size) (h1 : n ≤ BB) (h2 : ∀ g, go = some g → n ≤ g) : Below n w w' :=
  ⟨h.os, h.tape, h.output, Nat.le_trans hn h.size |> fun _ => h.size, fun k hk => h.block k (by omega) (by omega) (fun e => by have := h2 k e; omega)⟩
theorem BldAt.below {w w' : World} {BB : Nat} {go : Option Nat} {L : List Inst} {ov : Bool} (h : BldAt w BB go L ov) (hb : Below w.heap.size w w') : BldAt w' BB go L ov := by
  obtain ⟨a, c, h1, h2, h3, h4⟩ := h
  exact ⟨a, c, h1.below hb h1.lt, h2.below hb, h3, h4⟩
def BPost (BB : Nat) (go : Option Nat) (L : List Inst) (ov : Bool) (w w' : World) : Prop := ∃ go', BldAt w' BB go' L ov ∧ GoTo w go go' ∧ FrB BB go w w'
theorem Row.c2 {w : World} {B : Nat} {a b : Value} {T : TypeId} (h : Row w B [a, b] T) : (w.cell? ⟨B, 0, none⟩ = some a ∧ w.cell? ⟨B, 1, none⟩ = some b) ∧ (w.frozen? ⟨B, 0, none⟩ = false ∧ w.frozen? ⟨B, 1, none⟩ = false) := ⟨⟨h.cell 0, h.cell 1⟩, h.free 0, h.free 1⟩
theorem info_inst : (Tryd.prog.info? 53).map (fun i => (i.zero, i.size, i.bytes)) = some (some (.agg #[.int .i64 0, .int .u64 0, .int .u64 0, .int .u64 0, .int .u64 0, .int .i64 0, .int .i64 0]), 7, 56) := by kernel_rfl

set_option maxRecDepth 100000 in
set_option maxHeartbeats 4000000 in
theorem add_any (BB : Nat) (i : Inst) (L : List Inst) (ov : Bool) (w : World) (go : Option Nat) (h : BldAt w BB go L ov) :
    Calls Tryd.prog 20 #[.pointer (some ⟨BB, 0, none⟩), .agg #[.int .i64 i.op, .int .u64 i.set.a, .int .u64 i.set.b, .int .u64 i.set.c, .int .u64 i.set.d, .int .i64 i.x, .int .i64 i.y]] w fun e w' => e = .returned (.int .i64 (addK L : Nat)) ∧ BPost BB go (addL L i) (addO L ov) w w' := by
  have hBB := h.lt
  obtain ⟨a, c, h1, h2, h3, h4⟩ := h
  have HGO := hid h4
  clear h4
  have HR := hid (h1.alloc (.cells #[.int .i64 i.op, .int .u64 i.set.a, .int .u64 i.set.b, .int .u64 i.set.c, .int .u64 i.set.d, .int .i64 i.x, .int .i64 i.y] 53))
  have HO := hid (h2.alloc (.cells #[.int .i64 i.op, .int .u64 i.set.a, .int .u64 i.set.b, .int .u64 i.set.c, .int .u64 i.set.d, .int .i64 i.x, .int .i64 i.y] 53))
  have HI := hid (Row.new (w := w) (B := w.heap.size) (cs := [.int .i64 i.op, .int .u64 i.set.a, .int .u64 i.set.b, .int .u64 i.set.c, .int .u64 i.set.d, .int .i64 i.x, .int .i64 i.y]) (T := 53) rfl)
  have q := h1.c2
  have HRW := hid h1
  have HOW := hid h2
  clear h1 h2
  by_cases hf : 4096 ≤ L.length
  · have e1 : addK L = 0 := if_pos hf
    have e2 : addL L i = L := if_pos hf
    have e3 : addO L ov = true := if_pos hf
    have HE := hid (And.intro e1 (And.intro e2 e3))
    clear e1 e2 e3
    go_enter Tryd.func20, Tryd.ntmps20
    go_wp2_with fail
    all_goals go_ret
    all_goals
      rw [HE.out.1, HE.out.2.1, HE.out.2.2]
      have hbut := ((But.refl [BB] w).setCell (p := ⟨BB, 1, none⟩) (.inl (by simp)) (.bool true)).alloc (.cells #[.int .i64 i.op, .int .u64 i.set.a, .int .u64 i.set.b, .int .u64 i.set.c, .int .u64 i.set.d, .int .i64 i.x, .int .i64 i.y] 53)
      exact ⟨rfl, go, ⟨a, c, (HRW.out.set 1 (.bool true)).alloc _, (HOW.out.but ((But.refl [BB] w).setCell (p := ⟨BB, 1, none⟩) (.inl (by simp)) (.bool true)) (by omega)).alloc _, h3, HGO.out⟩, .inl rfl, ⟨hbut.os, hbut.tape, hbut.output, hbut.size, fun k hk h1 _ => hbut.block k hk (by simp; exact h1)⟩⟩
  · have e1 : addK L = L.length := if_neg hf
    have e2 : addL L i = L ++ [i] := if_neg hf
    have e3 : addO L ov = ov := if_neg hf
    have HE := hid (And.intro e1 (And.intro e2 e3))
    clear e1 e2 e3
    go_enter Tryd.func20, Tryd.ntmps20
    go_wp2_with fail
    obtain ⟨i0, hi, hz0, hz1, hz2⟩ := info_parts info_inst
    have HNEW := hid (Row.new (w := w.alloc (.cells #[.int .i64 i.op, .int .u64 i.set.a, .int .u64 i.set.b, .int .u64 i.set.c, .int .u64 i.set.d, .int .i64 i.x, .int .i64 i.y] 53)) (B := w.heap.size + 1) (cs := [.int .i64 i.op, .int .u64 i.set.a, .int .u64 i.set.b, .int .u64 i.set.c, .int .u64 i.set.d, .int .i64 i.x, .int .i64 i.y]) (T := 53) (by simp)).drew
    have HOX := hid (World.ownsRow.drew (World.ownsRow.alloc HO.out (.cells #[.int .i64 i.op, .int .u64 i.set.a, .int .u64 i.set.b, .int .u64 i.set.c, .int .u64 i.set.d, .int .i64 i.x, .int .i64 i.y] 53)))
    have HRX := hid (HR.out.alloc (.cells #[.int .i64 i.op, .int .u64 i.set.a, .int .u64 i.set.b, .int .u64 i.set.c, .int .u64 i.set.d, .int .i64 i.x, .int .i64 i.y] 53)).drew
    have HBX := hid (((Below.refl w.heap.size w).alloc (Nat.le_refl _) (.cells #[.int .i64 i.op, .int .u64 i.set.a, .int .u64 i.set.b, .int .u64 i.set.c, .int .u64 i.set.d, .int .i64 i.x, .int .i64 i.y] 53)).alloc (by simp) (.cells #[.int .i64 i.op, .int .u64 i.set.a, .int .u64 i.set.b, .int .u64 i.set.c, .int .u64 i.set.d, .int .i64 i.x, .int .i64 i.y] 53)).drew
    have hsz2 : w.heap.size + 2 ≤ ((w.alloc (.cells #[.int .i64 i.op, .int .u64 i.set.a, .int .u64 i.set.b, .int .u64 i.set.c, .int .u64 i.set.d, .int .i64 i.x, .int .i64 i.y] 53)).alloc (.cells #[.int .i64 i.op, .int .u64 i.set.a, .int .u64 i.set.b, .int .u64 i.set.c, .int .u64 i.set.d, .int .i64 i.x, .int .i64 i.y] 53)).drew.heap.size := by simp
    have hI7 := HI.out.c7f
    have hIlt := HI.out.lt
    have hRc := HR.out.c2
    go_region_law (refine step_append_lies _ rfl (.tmp 18) (.tmp 20) 33 rfl (BB + 1) 53 i0 (.agg #[.int .i64 0, .int .u64 0, .int .u64 0, .int .u64 0, .int .u64 0, .int .i64 0, .int .i64 0]) 7 56 Tryd.underlying33 hi hz0 hz1 hz2 rfl (by decide) (.slice a L.length c) L.length (L.flatMap Inst.cells) (by simp [Act.eval]) HOX.out ⟨w.heap.size + 1, 0, none⟩ 1 1 [.int .i64 i.op, .int .u64 i.set.a, .int .u64 i.set.b, .int .u64 i.set.c, .int .u64 i.set.d, .int .i64 i.x, .int .i64 i.y] (by simp [Act.eval]) rfl (fun j u hj => by rw [Addr.add_lit, Nat.zero_add, HNEW.out.cell, hj]) (fun u hu => by simp at hu; rcases hu with rfl | rfl | rfl | rfl | rfl | rfl | rfl <;> rfl) (by decide) (by unfold maxLen; omega) (by omega) (by simp; omega) _ rfl ?_; intro g2 c2 w3 hown hgrow hat hlt; have hv : ∀ g, (Value.slice a L.length c).ownBlock = some g → BB + 1 ≤ g := fun g hg => (World.ownsRow.lt HOX.out g hg).1; have hbl : ∀ j, j < BB + 1 → w3.heap[j]? = ((w.alloc (.cells #[.int .i64 i.op, .int .u64 i.set.a, .int .u64 i.set.b, .int .u64 i.set.c, .int .u64 i.set.d, .int .i64 i.x, .int .i64 i.y] 53)).alloc (.cells #[.int .i64 i.op, .int .u64 i.set.a, .int .u64 i.set.b, .int .u64 i.set.c, .int .u64 i.set.d, .int .i64 i.x, .int .i64 i.y] 53)).drew.heap[j]? := fun j hj => grownB hgrow hv j hj (by omega); have hr3 : Row w3 BB [.slice a L.length c, .bool ov] 60 := (hbl BB (by omega)).trans HRX.out; have q3 := hr3.c2; have z3 := hr3.lt)
    all_goals
      have HR3 := hid hr3
      have HO3 : Hid (OwnI w3 (BB + 1) (.slice (some ⟨g2, 0, none⟩) (L.length + 1) c2) (L ++ [i])) := by
        show OwnI _ _ _ _
        unfold OwnI
        simpa [List.flatMap_append, Inst.cells] using hown
      have HGT : Hid (GoTo w go (some g2)) := by
        rcases hat with hat | hat
        · exact .inl (by rw [← HGO.out, hat])
        · exact .inr ⟨g2, rfl, by omega⟩
      have HB3 : Hid (FrB BB go w w3) := ⟨hgrow.os.trans HBX.out.os, hgrow.tape.trans HBX.out.tape, hgrow.output.trans HBX.out.output, Nat.le_trans HBX.out.size hgrow.size, fun j hj h1 h2 => (hgrow.block j (by omega) (fun e => h2 (by rw [← HGO.out]; exact e.symm))).trans (HBX.out.block j hj)⟩
      clear hv hbl hr3 hown hgrow hat q
    all_goals go_wp2_with fail
    all_goals go_ret
    all_goals
      rw [HE.out.1, HE.out.2.1, HE.out.2.2]
      have ho4 := HO3.out.but ((But.refl [BB] w3).setCell (p := ⟨BB, 0, none⟩) (.inl (by simp)) (.slice (some ⟨g2, 0, none⟩) (L.length + 1) c2)) (by omega)
      have hb5 := (But.refl [BB] w3).setCell (p := ⟨BB, 0, none⟩) (.inl (by simp)) (.slice (some ⟨g2, 0, none⟩) (L.length + 1) c2)
      refine ⟨ret_int (by omega), some g2, ⟨some ⟨g2, 0, none⟩, c2, ?_, ?_, by simp; omega, rfl⟩, HGT.out, HB3.out.os, HB3.out.tape, HB3.out.output, Nat.le_trans HB3.out.size hb5.size, fun k hk h1 h2 => (hb5.block k (Nat.lt_of_lt_of_le hk HB3.out.size) (by simp; exact h1)).trans (HB3.out.block k hk h1 h2)⟩
      · rw [List.length_append]; exact HR3.out.set 0 _
      · rw [List.length_append]; exact ho4
end Go.Proofs.YthnpbopnpdlmnaaDoor

/- The program's builder: a field of an instruction is set; split. -/
namespace Go.Proofs.YthnpbopnpdlmnaaDoor
open Go.RowKit
attribute [local go_sem] gives givesUpon

theorem addL_len (L : List Inst) (i : Inst) (h : L.length ≤ 4096) : addK L < (addL L i).length ∧ (addL L i).length ≤ 4096 := by
  unfold addK addL
  by_cases hf : 4096 ≤ L.length
  · rw [if_pos hf, if_pos hf]; omega
  · rw [if_neg hf, if_neg hf]; simp; omega
theorem BldAt.opens {w : World} {BB : Nat} {go : Option Nat} {L : List Inst} {ov : Bool} (h : BldAt w BB go L ov) (k : Nat) (hk : k < L.length) : ∃ (g c : Nat) (f : Inst), go = some g ∧ Row w BB [.slice (some ⟨g, 0, none⟩) L.length c, .bool ov] 60 ∧ BB + 1 ≤ g ∧ g < w.heap.size ∧ CellsAt w g (k * 7) f.cells ∧ (∀ i, w.frozen? ⟨g, i, none⟩ = false) ∧
    (∀ v, BldAt (w.setCell ⟨g, k * 7 + 5, none⟩ (.int .i64 v)) BB go (setX L k v) ov) ∧ (∀ v, BldAt (w.setCell ⟨g, k * 7 + 6, none⟩ (.int .i64 v)) BB go (setY L k v) ov) := by
  obtain ⟨a, c, h1, h2, h3, h4⟩ := h
  have hk' : L[k]? = some L[k] := List.getElem?_eq_getElem hk
  obtain ⟨-, g, rfl, e1, e2, e3, e4, e5, e6⟩ := h2.elem k L[k] hk'
  have hgo : go = some g := h4.symm
  refine ⟨g, c, L[k], hgo, h1, e1, e2, e3, e4, fun v => ?_, fun v => ?_⟩
  · have hs : setX L k v = L.set k { L[k] with x := v } := by unfold setX; rw [hk']
    rw [hs]
    refine ⟨some ⟨g, 0, none⟩, c, ?_, ?_, by rw [List.length_set]; exact h3, hgo.symm⟩
    · rw [List.length_set]; exact h1.other (by omega) _ _
    · rw [List.length_set]; exact e5 v
  · have hs : setY L k v = L.set k { L[k] with y := v } := by unfold setY; rw [hk']
    rw [hs]
    refine ⟨some ⟨g, 0, none⟩, c, ?_, ?_, by rw [List.length_set]; exact h3, hgo.symm⟩
    · rw [List.length_set]; exact h1.other (by omega) _ _
    · rw [List.length_set]; exact e6 v
theorem CellsAt.c7i {w : World} {b o : Nat} {f : Inst} (h : CellsAt w b o f.cells) : w.cell? ⟨b, o, none⟩ = some (.int .i64 f.op) ∧ w.cell? ⟨b, o + 1, none⟩ = some (.int .u64 f.set.a) ∧ w.cell? ⟨b, o + 2, none⟩ = some (.int .u64 f.set.b) ∧ w.cell? ⟨b, o + 3, none⟩ = some (.int .u64 f.set.c) ∧ w.cell? ⟨b, o + 4, none⟩ = some (.int .u64 f.set.d) ∧ w.cell? ⟨b, o + 5, none⟩ = some (.int .i64 f.x) ∧ w.cell? ⟨b, o + 6, none⟩ = some (.int .i64 f.y) :=
  ⟨h 0 _ rfl, h 1 _ rfl, h 2 _ rfl, h 3 _ rfl, h 4 _ rfl, h 5 _ rfl, h 6 _ rfl⟩
theorem addLit_any (BB : Nat) (op x y : Int) (L : List Inst) (ov : Bool) (w : World) (go : Option Nat) (h : BldAt w BB go L ov) :
    Calls Tryd.prog 20 #[.pointer (some ⟨BB, 0, none⟩), .agg #[.int .i64 op, .int .u64 0, .int .u64 0, .int .u64 0, .int .u64 0, .int .i64 x, .int .i64 y]] w fun e w' => e = .returned (.int .i64 (addK L : Nat)) ∧ BPost BB go (addL L ⟨op, Cs.none, x, y⟩) (addO L ov) w w' :=
  add_any BB ⟨op, Cs.none, x, y⟩ L ov w go h

def splitL (L : List Inst) : List Inst := setX (addL L (isplit 0 0)) (addK L) ((addK L : Nat) + 1)
theorem splitL_len (L : List Inst) : (splitL L).length = (addL L (isplit 0 0)).length := setX_len _ _ _
set_option maxRecDepth 100000 in
set_option maxHeartbeats 2000000 in
theorem split_any (BB : Nat) (L : List Inst) (ov : Bool) (w : World) (go : Option Nat) (h : BldAt w BB go L ov) :
    Calls Tryd.prog 44 #[.pointer (some ⟨BB, 0, none⟩)] w fun e w' => e = .returned (.int .i64 (addK L : Nat)) ∧ BPost BB go (splitL L) (addO L ov) w w' := by
  have hlen : L.length ≤ 4096 := h.len
  have hal := addL_len L (isplit 0 0) hlen
  have HA := hid (addLit_any BB 2 0 0 L ov w go h)
  clear h
  have hdef : splitL L = setX (addL L (isplit 0 0)) (addK L) ((addK L : Nat) + 1) := rfl
  rw [hdef]
  have HA1 : Hid (Calls Tryd.prog 20 #[.pointer (some ⟨BB, 0, none⟩), .agg #[.int .i64 2, .int .u64 0, .int .u64 0, .int .u64 0, .int .u64 0, .int .i64 0, .int .i64 0]] w fun e w' => e = .returned (.int .i64 (addK L : Nat)) ∧ BPost BB go (addL L (isplit 0 0)) (addO L ov) w w') := HA.out
  clear HA hdef
  generalize addK L = k at *
  generalize addL L (isplit 0 0) = L1 at *
  generalize addO L ov = ov1 at *
  go_enter Tryd.func44, Tryd.ntmps44
  go_wp2_with fail
  refine HA1.out.mono ?_
  unfold BPost
  rintro e w1 ⟨rfl, go1, hb1, hg1, hbl⟩
  have HB1 := hid hb1
  obtain ⟨g, c, f, k0, k1, k2, k3, k4, k5, k6, k7⟩ := HB1.out.opens k hal.1
  have q1 := k1.c2
  have z1 := k1.lt
  have q2 := k4.c7i
  have q3 := k5 (k * 7 + 5)
  have hkk := hal.1
  have hkn : k < 4096 := by omega
  have HK6 := hid (k6 ((k : Int) + 1))
  have HBL := hid hbl
  have HG1 := hid hg1
  have HK0 := hid k0
  clear hg1 k0 hb1 hbl k1 k4 k5 k6 k7 hal HA1
  go_wp2_with fail
  all_goals go_ret
  all_goals
    have hs := (But.refl [g] w1).setCell (p := ⟨g, k * 7 + 5, none⟩) (.inl (by simp)) (.int .i64 ((k : Int) + 1))
    exact ⟨rfl, go1, HK6.out, HG1.out, HBL.out.trans HG1.out ⟨hs.os, hs.tape, hs.output, hs.size, fun j hj h1 h2 => hs.block j hj (by simp; intro e; exact h2 (by rw [HK0.out, e]))⟩⟩
end Go.Proofs.YthnpbopnpdlmnaaDoor
