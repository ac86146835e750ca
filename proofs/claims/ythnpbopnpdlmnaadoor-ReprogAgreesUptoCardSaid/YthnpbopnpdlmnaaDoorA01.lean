/- Trees of regular expressions as plain Lean data, and what it means that such a tree lies in memory. Nothing here speaks of the program. -/
import Derived.WalkKit
import Derived.WalkSpells
import Derived.WalkLawsBesides
namespace Go.Proofs.YthnpbopnpdlmnaaDoor
open Go.RowKit

def Row (w : World) (B : Nat) (cs : List Value) (T : TypeId) : Prop := w.heap[B]? = some (.cells cs.toArray T (0, 0))
theorem Row.cell {w : World} {B : Nat} {cs : List Value} {T : TypeId} (h : Row w B cs T) (j : Nat) : w.cell? ⟨B, j, none⟩ = cs[j]? := by
  unfold Row at h; simp [World.cell?, h]
theorem Row.free {w : World} {B : Nat} {cs : List Value} {T : TypeId} (h : Row w B cs T) (j : Nat) : w.frozen? ⟨B, j, none⟩ = false := by
  unfold Row at h; simp [World.frozen?, h]
theorem Row.lt {w : World} {B : Nat} {cs : List Value} {T : TypeId} (h : Row w B cs T) : B < w.heap.size := by
  unfold Row at h
  rcases Nat.lt_or_ge B w.heap.size with h1 | h1
  · exact h1
  · simp [Array.getElem?_eq_none h1] at h
theorem Row.below {n : Nat} {w w' : World} {B : Nat} {cs : List Value} {T : TypeId} (h : Row w B cs T) (hb : Below n w w') (hB : B < n) : Row w' B cs T := (hb.block B hB).trans h
theorem Row.at (w : World) (cs : List Value) (T : TypeId) : Row (w.alloc (.cells cs.toArray T)) w.heap.size cs T := by
  show (w.heap.push _)[w.heap.size]? = _
  simp
theorem Row.new {w : World} {B : Nat} {cs : List Value} {T : TypeId} (h : B = w.heap.size) : Row (w.alloc (.cells cs.toArray T)) B cs T := by subst h; exact Row.at w cs T
theorem Row.alloc {w : World} {B : Nat} {cs : List Value} {T : TypeId} (h : Row w B cs T) (o : Obj) : Row (w.alloc o) B cs T := by
  unfold Row; rw [Below.heap_alloc _ _ _ h.lt]; exact h
theorem Row.drew {w : World} {B : Nat} {cs : List Value} {T : TypeId} (h : Row w B cs T) : Row w.drew B cs T := h
theorem Row.set {w : World} {B : Nat} {cs : List Value} {T : TypeId} (h : Row w B cs T) (j : Nat) (v : Value) : Row (w.setCell ⟨B, j, none⟩ v) B (cs.set j v) T := by
  have := h.lt
  unfold Row at *
  simp [World.setCell, Array.getElem?_modify, h]
theorem Row.other {w : World} {B : Nat} {cs : List Value} {T : TypeId} (h : Row w B cs T) {B' : Nat} (hn : B ≠ B') (j : Nat) (v : Value) : Row (w.setCell ⟨B', j, none⟩ v) B cs T := by
  unfold Row at *
  rw [Below.heap_setCell _ _ _ _ hn]; exact h
theorem Row.c1 {w : World} {B : Nat} {a : Value} {T : TypeId} (h : Row w B [a] T) : w.cell? ⟨B, 0, none⟩ = some a ∧ w.frozen? ⟨B, 0, none⟩ = false := ⟨h.cell 0, h.free 0⟩
theorem Row.c4 {w : World} {B : Nat} {a b c d : Value} {T : TypeId} (h : Row w B [a, b, c, d] T) :
    (w.cell? ⟨B, 0, none⟩ = some a ∧ w.cell? ⟨B, 1, none⟩ = some b ∧ w.cell? ⟨B, 2, none⟩ = some c ∧ w.cell? ⟨B, 3, none⟩ = some d) ∧
    (w.frozen? ⟨B, 0, none⟩ = false ∧ w.frozen? ⟨B, 1, none⟩ = false ∧ w.frozen? ⟨B, 2, none⟩ = false ∧ w.frozen? ⟨B, 3, none⟩ = false) :=
  ⟨⟨h.cell 0, h.cell 1, h.cell 2, h.cell 3⟩, h.free 0, h.free 1, h.free 2, h.free 3⟩
theorem Row.c9 {w : World} {B : Nat} {a b c d e f g i j : Value} {T : TypeId} (h : Row w B [a, b, c, d, e, f, g, i, j] T) :
    (w.cell? ⟨B, 0, none⟩ = some a ∧ w.cell? ⟨B, 1, none⟩ = some b ∧ w.cell? ⟨B, 2, none⟩ = some c ∧ w.cell? ⟨B, 3, none⟩ = some d ∧ w.cell? ⟨B, 4, none⟩ = some e ∧ w.cell? ⟨B, 5, none⟩ = some f ∧
      w.cell? ⟨B, 6, none⟩ = some g ∧ w.cell? ⟨B, 7, none⟩ = some i ∧ w.cell? ⟨B, 8, none⟩ = some j) ∧
    (w.frozen? ⟨B, 0, none⟩ = false ∧ w.frozen? ⟨B, 1, none⟩ = false ∧ w.frozen? ⟨B, 2, none⟩ = false ∧ w.frozen? ⟨B, 3, none⟩ = false ∧ w.frozen? ⟨B, 4, none⟩ = false ∧ w.frozen? ⟨B, 5, none⟩ = false ∧
      w.frozen? ⟨B, 6, none⟩ = false ∧ w.frozen? ⟨B, 7, none⟩ = false ∧ w.frozen? ⟨B, 8, none⟩ = false) :=
  ⟨⟨h.cell 0, h.cell 1, h.cell 2, h.cell 3, h.cell 4, h.cell 5, h.cell 6, h.cell 7, h.cell 8⟩, h.free 0, h.free 1, h.free 2, h.free 3, h.free 4, h.free 5, h.free 6, h.free 7, h.free 8⟩
structure But (S : List Nat) (w w' : World) : Prop where
  os : w'.os = w.os
  tape : w'.tape = w.tape
  output : w'.output = w.output
  size : w.heap.size ≤ w'.heap.size
  block : ∀ k, k < w.heap.size → k ∉ S → w'.heap[k]? = w.heap[k]?
theorem But.refl (S : List Nat) (w : World) : But S w w := ⟨rfl, rfl, rfl, Nat.le_refl _, fun _ _ _ => rfl⟩
theorem But.trans {S : List Nat} {a b c : World} (h : But S a b) (k : But S b c) : But S a c :=
  ⟨k.os.trans h.os, k.tape.trans h.tape, k.output.trans h.output, Nat.le_trans h.size k.size, fun i hi hn => (k.block i (Nat.lt_of_lt_of_le hi h.size) hn).trans (h.block i hi hn)⟩
theorem But.of_below {S : List Nat} {w w' : World} (h : Below w.heap.size w w') : But S w w' := ⟨h.os, h.tape, h.output, h.size, fun k hk _ => h.block k hk⟩
theorem But.below {S : List Nat} {w w' : World} {n : Nat} (h : But S w w') (hn : n ≤ w.heap.size) (hS : ∀ k, k ∈ S → n ≤ k) : Below n w w' :=
  ⟨h.os, h.tape, h.output, h.size, fun k hk => h.block k (by omega) (fun hm => by have := hS k hm; omega)⟩
theorem But.alloc {S : List Nat} {a w : World} (h : But S a w) (o : Obj) : But S a (w.alloc o) :=
  h.trans ⟨rfl, rfl, rfl, by simp, fun k hk _ => Below.heap_alloc _ _ _ hk⟩
theorem But.drew {S : List Nat} {a w : World} (h : But S a w) : But S a w.drew := ⟨h.os, h.tape, h.output, h.size, h.block⟩
theorem But.trans' {S : List Nat} {a b c : World} (h : But S a b) (k : c.os = b.os ∧ c.tape = b.tape ∧ c.output = b.output ∧ b.heap.size ≤ c.heap.size ∧ ∀ k, k < a.heap.size → k ∉ S → c.heap[k]? = b.heap[k]?) : But S a c :=
  ⟨k.1.trans h.os, k.2.1.trans h.tape, k.2.2.1.trans h.output, Nat.le_trans h.size k.2.2.2.1, fun i hi hn => (k.2.2.2.2 i hi hn).trans (h.block i hi hn)⟩
theorem But.setCell {S : List Nat} {a w : World} (h : But S a w) {p : Addr} (hp : p.block ∈ S ∨ a.heap.size ≤ p.block) (u : Value) : But S a (w.setCell p u) :=
  h.trans' ⟨rfl, rfl, rfl, by simp [World.setCell], fun k hk hn => Below.heap_setCell _ _ _ _ (fun e => by subst e; rcases hp with hp | hp; exact hn hp; omega)⟩
theorem But.mono {S S' : List Nat} {w w' : World} (h : But S w w') (hs : ∀ k, k ∈ S → k ∈ S' ∨ w.heap.size ≤ k) : But S' w w' :=
  ⟨h.os, h.tape, h.output, h.size, fun k hk hn => h.block k hk (fun hm => by rcases hs k hm with h1 | h1; exact hn h1; omega)⟩
theorem But.later {S S' : List Nat} {a b c : World} (h : But S a b) (k : But S' b c) (hs : ∀ i, i ∈ S' → i ∈ S ∨ a.heap.size ≤ i) : But S a c :=
  ⟨k.os.trans h.os, k.tape.trans h.tape, k.output.trans h.output, Nat.le_trans h.size k.size, fun i hi hn => (k.block i (Nat.lt_of_lt_of_le hi h.size) (fun hm => by rcases hs i hm with h1 | h1; exact hn h1; omega)).trans (h.block i hi hn)⟩
theorem Row.but {S : List Nat} {w w' : World} {B : Nat} {cs : List Value} {T : TypeId} (h : Row w B cs T) (hb : But S w w') (hB : B ∉ S) : Row w' B cs T := (hb.block B h.lt hB).trans h
theorem ret_int {k : IntKind} {a b : Int} (h : a = b) : Ending.returned (.int k a) = .returned (.int k b) := by rw [h]
theorem ret_bool {a b : Bool} (h : a = b) : Ending.returned (.bool a) = .returned (.bool b) := by rw [h]

theorem hid {p : Prop} (h : p) : Hid p := h

structure Cs where
  a : Nat
  b : Nat
  c : Nat
  d : Nat
  deriving DecidableEq

def W64 (n : Nat) : Prop := n < 18446744073709551616
structure Cs.wf (s : Cs) : Prop where
  a : W64 s.a
  b : W64 s.b
  c : W64 s.c
  d : W64 s.d
def Cs.none : Cs := ⟨0, 0, 0, 0⟩
theorem Cs.none_wf : Cs.none.wf := ⟨by unfold W64; decide, by unfold W64; decide, by unfold W64; decide, by unfold W64; decide⟩
def Cs.cells (s : Cs) : List Value := [.int .u64 s.a, .int .u64 s.b, .int .u64 s.c, .int .u64 s.d]

structure Pay where
  op : Int
  set : Cs
  lo : Int
  hi : Int
  gr : Int

inductive Re where
  | mk (p : Pay) (xs : List Re)

namespace Re
theorem ind {M : Re → Prop} (h : ∀ p xs, (∀ a, a ∈ xs → M a) → M (.mk p xs)) : ∀ t, M t := by
  intro t
  exact Re.rec (motive_1 := M) (motive_2 := fun l => ∀ a, a ∈ l → M a) (fun p xs ih => h p xs ih) (fun _ ha => by cases ha)
    (fun a l iha ihl b hb => by rcases List.mem_cons.1 hb with rfl | hb; exact iha; exact ihl b hb) t
end Re

def I64 (n : Int) : Prop := -9223372036854775808 ≤ n ∧ n ≤ 9223372036854775807

structure Pay.wf (p : Pay) : Prop where
  op : I64 p.op
  set : p.set.wf
  lo : I64 p.lo
  hi : I64 p.hi
  gr : I64 p.gr

def Pay.cells (p : Pay) (sl : Value) : List Value :=
  [.int .i64 p.op, .int .u64 p.set.a, .int .u64 p.set.b, .int .u64 p.set.c, .int .u64 p.set.d, .int .i64 p.lo, .int .i64 p.hi, .int .i64 p.gr, sl]

def CellsAt (w : World) (b o : Nat) (cs : List Value) : Prop := ∀ j v, cs[j]? = some v → w.cell? ⟨b, o + j, none⟩ = some v

theorem CellsAt.of4 {w : World} {b o : Nat} {v0 v1 v2 v3 : Value} (h0 : w.cell? ⟨b, o, none⟩ = some v0) (h1 : w.cell? ⟨b, o + 1, none⟩ = some v1) (h2 : w.cell? ⟨b, o + 2, none⟩ = some v2) (h3 : w.cell? ⟨b, o + 3, none⟩ = some v3) : CellsAt w b o [v0, v1, v2, v3] := by
  intro j v hj
  match j, hj with
  | 0, hj => simp at hj; subst hj; exact h0
  | 1, hj => simp at hj; subst hj; exact h1
  | 2, hj => simp at hj; subst hj; exact h2
  | 3, hj => simp at hj; subst hj; exact h3
theorem CellsAt.of_row {w : World} {B : Nat} {cs : List Value} {T : TypeId} (h : Row w B cs T) : CellsAt w B 0 cs := fun j v hj => by rw [Nat.zero_add, h.cell, hj]

theorem ret_row {P : Program} {fn : Func} {R : Ending → World → Prop} {a : Act} {w : World} (p : Tmp) (ty : TypeId) (h : fn.results = #[.cell p ty]) (b : Nat) (hp : a.tmps.getD p undef = .pointer (some ⟨b, 0, none⟩)) (cs : List Value) (hc : CellsAt w b 0 cs) (d : TypeDesc)
    (hu : P.underlying ty = some d) (hd : (match d with | .struct _ | .array _ _ => true | _ => false) = true) (hi : (P.info? ty).map (·.size) = some cs.length) (hdf : a.defers = []) (hR : R (.returned (.agg cs.toArray)) w) : bodyPost P fn R .ret a w := by
  refine bodyPost_ret (v := .agg cs.toArray) ?_ hdf hR
  have hl : (loadCells ⟨b, 0, none⟩ cs.length).run P w = .ok cs.toArray w := run_loadCells_list (P := P) w ⟨b, 0, none⟩ cs (fun j v hv => by rw [Addr.add_lit]; exact hc j v hv)
  have hrun : (loadVar ty ⟨b, 0, none⟩).run P w = .ok (.agg cs.toArray) w := by
    cases hq : P.info? ty with
    | none => simp [hq] at hi
    | some i =>
      have hs : i.size = cs.length := by simpa [hq] using hi
      have hagg : (isAgg ty).run P w = .ok true w := by
        unfold isAgg
        rw [Sem.run_bind, run_underlying hu w]
        cases d <;> simp_all
      simp [loadVar, Sem.run_bind, hagg, sizeOf, typeInfo, hq, hs, hl]
  have hp' : a.tmps[p]?.getD undef = .pointer (some ⟨b, 0, none⟩) := by simpa using hp
  simp [results, h, hp', asAddr, hrun]

mutual
def Re.In (w : World) : Re → List Value → Prop
  | .mk p xs, cs => ∃ (ad : Option Addr) (cap : Nat), cs = p.cells (.slice ad xs.length cap) ∧ p.wf ∧ xs.length ≤ cap ∧ cap ≤ maxLen ∧ (ad = none → cap = 0) ∧ Re.AllIn w xs ad 0
def Re.AllIn (w : World) : List Re → Option Addr → Nat → Prop
  | [], _, _ => True
  | t :: ts, ad, k => (∃ b o cs, ad = some ⟨b, o, none⟩ ∧ CellsAt w b (o + k) cs ∧ Re.In w t cs) ∧ Re.AllIn w ts ad (k + 9)
end

theorem Re.In.nine {w : World} {t : Re} {cs : List Value} (h : t.In w cs) : cs.length = 9 := by
  cases t with
  | mk p xs => rw [Re.In] at h; obtain ⟨ad, cap, rfl, _⟩ := h; rfl

theorem Re.AllIn.get {w : World} : ∀ {xs : List Re} {ad : Option Addr} {k : Nat}, Re.AllIn w xs ad k → ∀ (i : Nat) (a : Re), xs[i]? = some a →
    ∃ b o cs, ad = some ⟨b, o, none⟩ ∧ CellsAt w b (o + (k + i * 9)) cs ∧ a.In w cs
  | t :: ts, ad, k, h, 0, a, hi => by
    rw [Re.AllIn] at h
    simp at hi; subst hi
    obtain ⟨b, o, cs, h1, h2, h3⟩ := h.1
    exact ⟨b, o, cs, h1, by simpa using h2, h3⟩
  | t :: ts, ad, k, h, i + 1, a, hi => by
    rw [Re.AllIn] at h
    obtain ⟨b, o, cs, h1, h2, h3⟩ := Re.AllIn.get h.2 i a (by simpa using hi)
    exact ⟨b, o, cs, h1, by rw [show k + (i + 1) * 9 = k + 9 + i * 9 by omega]; exact h2, h3⟩

theorem CellsAt.block {w : World} {b o : Nat} {cs : List Value} (h : CellsAt w b o cs) (hn : cs ≠ []) : b < w.heap.size := by
  cases cs with
  | nil => exact absurd rfl hn
  | cons v r =>
    have := h 0 v rfl
    rcases Nat.lt_or_ge b w.heap.size with h1 | h1
    · exact h1
    · simp [World.cell?, Array.getElem?_eq_none h1] at this

theorem CellsAt.below {w w' : World} {b o : Nat} {cs : List Value} (h : CellsAt w b o cs) (hb : Below w.heap.size w w') : CellsAt w' b o cs := by
  intro j v hj
  have hn : cs ≠ [] := by rintro rfl; simp at hj
  rw [hb.cell (h.block hn)]
  exact h j v hj

mutual
theorem Re.In.below {w w' : World} (hb : Below w.heap.size w w') : ∀ {t : Re} {cs : List Value}, t.In w cs → t.In w' cs
  | .mk p xs, cs, h => by
    rw [Re.In] at h ⊢
    obtain ⟨ad, cap, h1, h2, h3, h4, h5, h6⟩ := h
    exact ⟨ad, cap, h1, h2, h3, h4, h5, Re.AllIn.below hb h6⟩
theorem Re.AllIn.below {w w' : World} (hb : Below w.heap.size w w') : ∀ {xs : List Re} {ad : Option Addr} {k : Nat}, Re.AllIn w xs ad k → Re.AllIn w' xs ad k
  | [], ad, k, h => by rw [Re.AllIn]; trivial
  | t :: ts, ad, k, h => by
    rw [Re.AllIn] at h ⊢
    obtain ⟨⟨b, o, cs, h1, h2, h3⟩, h4⟩ := h
    exact ⟨⟨b, o, cs, h1, h2.below hb, Re.In.below hb h3⟩, Re.AllIn.below hb h4⟩
end

theorem wpList_load_agg {P : Program} {ops : Array Oper} {rest : List Oper} {o : Oper} {a : Act} {w : World} {Q : Exit → Act → World → Prop} (hgd : o.guard = none) (ty : TypeId) (x : Operand) (ho : o.op = .load ty x)
    (b f : Nat) (hx : a.eval x = .pointer (some ⟨b, f, none⟩)) (cs : List Value) (d : TypeDesc) (hc : CellsAt w b f cs)
    (hu : P.underlying ty = some d) (hd : (match d with | .struct _ | .array _ _ => true | _ => false) = true) (hi : (P.info? ty).map (·.size) = some cs.length)
    (h : wpList P ops Q rest (a.put o.dst (.agg cs.toArray)) w) : wpList P ops Q (o :: rest) a w := by
  refine wpList_plain hgd fun K hK => ?_
  have hl : (loadCells ⟨b, f, none⟩ cs.length).run P w = .ok cs.toArray w := run_loadCells_list (P := P) w ⟨b, f, none⟩ cs (fun j v hv => by rw [Addr.add_lit]; exact hc j v hv)
  have hrun : (loadVar ty ⟨b, f, none⟩).run P w = .ok (.agg cs.toArray) w := by
    cases hq : P.info? ty with
    | none => simp [hq] at hi
    | some i =>
      have hs : i.size = cs.length := by simpa [hq] using hi
      have hagg : (isAgg ty).run P w = .ok true w := by
        unfold isAgg
        rw [Sem.run_bind, run_underlying hu w]
        cases d <;> simp_all
      simp [loadVar, Sem.run_bind, hagg, sizeOf, typeInfo, hq, hs, hl]
  unfold Oper.wp execOp
  simp only [ho, hx, Instr.loadAt, Instr.sureAddr, Sem.run_bind, Sem.run_pure, Result.andThen_ok, hrun]
  exact hK _ _ h

end Go.Proofs.YthnpbopnpdlmnaaDoor
