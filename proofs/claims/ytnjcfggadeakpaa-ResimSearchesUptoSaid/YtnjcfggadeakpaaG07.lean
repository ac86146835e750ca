/- The program's alt. -/
import Derived.Test.YtnjcfggadeakpaaG05
import Derived.Test.YtnjcfggadeakpaaG06
import Derived.Test.YtnjcfggadeakpaaG04
import Derived.Deep.DeepCutAuto
import Derived.Deep.CutBlock
import Derived.Test.YtnjcfggadeakpaaG03
import Derived.ChangeKeysEq
import Derived.Test.YtnjcfggadeakpaaG02
namespace Go.Proofs.Ytnjcfggadeakpaa
open Go.RowKit
attribute [local go_sem] gives givesUpon

/-- The slice value v owns the numbers J. -/
def OwnJ (w : World) (base : Nat) (v : Value) (J : List Nat) : Prop := w.ownsRow base 3 1 v J.length (J.map fun j => .int .i64 (j : Nat))
theorem OwnJ.lt {w : World} {base : Nat} {v : Value} {J : List Nat} (h : OwnJ w base v J) : ∀ g, v.ownBlock = some g → base ≤ g ∧ g < w.heap.size := World.ownsRow.lt h
/-- The two lists' blocks are different: their types are. -/
theorem own_ne {w : World} {b1 b2 : Nat} {v1 v2 : Value} {L : List Inst} {J : List Nat} (h : OwnI w b1 v1 L) (k : OwnJ w b2 v2 J) (g : Nat) (h1 : v1.ownBlock = some g) (h2 : v2.ownBlock = some g) : False := by
  rcases h.2 with ⟨rfl, _⟩ | ⟨g1, cap1, cur1, rfl, _, e1, _⟩
  · simp [Value.ownBlock] at h1
  rcases k.2 with ⟨rfl, _⟩ | ⟨g2, cap2, cur2, rfl, _, e2, _⟩
  · simp [Value.ownBlock] at h2
  simp [Value.ownBlock] at h1 h2
  subst h1 h2
  rw [e1] at e2
  have e := Option.some.inj e2
  injection e with e3 e4
  exact absurd e4 (by decide)
theorem OwnJ.frb {w w' : World} {BB base : Nat} {go : Option Nat} {v : Value} {J : List Nat} (h : OwnJ w base v J) (hb : FrB BB go w w') (hB : BB < base) (hg : ∀ g, v.ownBlock = some g → go ≠ some g) : OwnJ w' base v J := by
  refine ⟨h.1, ?_⟩
  have hlt := h.lt
  rcases h.2 with hn | ⟨g, cap, cur, rfl, hb1, hgg, rest⟩
  · exact .inl hn
  · exact .inr ⟨g, cap, cur, rfl, hb1, (hb.block g (hlt g rfl).2 (by omega) (hg g rfl)).trans hgg, rest⟩
theorem OwnJ.below {w w' : World} {base : Nat} {v : Value} {J : List Nat} (h : OwnJ w base v J) (hb : Below w.heap.size w w') : OwnJ w' base v J := by
  refine ⟨h.1, ?_⟩
  have hlt := h.lt
  rcases h.2 with hn | ⟨g, cap, cur, rfl, hb1, hgg, rest⟩
  · exact .inl hn
  · exact .inr ⟨g, cap, cur, rfl, hb1, (hb.block g (hlt g rfl).2).trans hgg, rest⟩
theorem AltI.start {xs : List Re} {L : List Inst} (hl : L.length ≤ 4096) : AltI xs 0 L L false [] :=
  ⟨fun _ => ⟨(by simp [Re.gpre]), rfl, rfl⟩, fun h => (by simp [Re.psize] at h; omega), fun h => (by cases h), fun j hj => (by cases hj), Nat.le_refl _, rfl⟩
theorem FrB.set {BB g : Nat} {w : World} (i : Nat) (v : Value) : FrB BB (some g) w (w.setCell ⟨g, i, none⟩ v) := by
  have hs := (But.refl [g] w).setCell (p := ⟨g, i, none⟩) (.inl (by simp)) v
  exact ⟨hs.os, hs.tape, hs.output, hs.size, fun j hj _ h2 => hs.block j hj (by simp; intro e; exact h2 (by rw [e]))⟩
theorem FrB.grown {BB : Nat} {go row : Option Nat} {w a b : World} (h : FrB BB go w a) (k : a.grownBy b row) (hr : ∀ g, row = some g → w.heap.size ≤ g) : FrB BB go w b :=
  ⟨k.os.trans h.os, k.tape.trans h.tape, k.output.trans h.output, Nat.le_trans h.size k.size, fun j hj h1 h2 => (k.block j (Nat.lt_of_lt_of_le hj h.size) (fun e => by have := hr j e.symm; omega)).trans (h.block j hj h1 h2)⟩
theorem info_j : (Try.prog.info? 3).map (fun i => (i.zero, i.size, i.bytes)) = some (some (.int .i64 0), 1, 8) := by kernel_rfl

end Go.Proofs.Ytnjcfggadeakpaa

/- The program's repeat. -/
namespace Go.Proofs.Ytnjcfggadeakpaa
open Go.RowKit
attribute [local go_sem] gives givesUpon


-- def R9 := [.int .i64 p.op, .int .u64 p.set.a, .int .u64 p.set.b, .int .u64 p.set.c, .int .u64 p.set.d, .int .i64 p.lo, .int .i64 p.hi, .int .i64 p.gr, .slice ad 1 cap]
-- def S9 := [.int .i64 p.op, .int .u64 p.set.a, .int .u64 p.set.b, .int .u64 p.set.c, .int .u64 p.set.d, .int .i64 p.lo, .int .i64 p.hi, .int .i64 p.gr, .slice (some ⟨b, o, none⟩) 1 cap]
end Go.Proofs.Ytnjcfggadeakpaa

/- The program's tree. -/
namespace Go.Proofs.Ytnjcfggadeakpaa
open Go.RowKit
attribute [local go_sem] gives givesUpon

mutual
/-- Alternatives and repetitions have arguments as they should. -/
def Re.fine : Re → Prop
  | .mk p xs => (p.op = 4 → 1 ≤ xs.length) ∧ (p.op = 5 → xs.length = 1) ∧ ((p.op = 6 → xs.length = 1) ∧ (p.op = 3 ∨ p.op = 4 ∨ p.op = 5 ∨ p.op = 6 ∨ xs = [])) ∧ Re.fines xs
def Re.fines : List Re → Prop
  | [] => True
  | t :: ts => t.fine ∧ Re.fines ts
end
theorem Re.fines_mem : ∀ (xs : List Re), Re.fines xs → ∀ a, a ∈ xs → a.fine
  | t :: ts, h, a, ha => by
    rw [Re.fines] at h
    rcases List.mem_cons.1 ha with rfl | ha
    · exact h.1
    · exact Re.fines_mem ts h.2 a ha
theorem Re.csizes_app : ∀ (xs ys : List Re), Re.csizes (xs ++ ys) = Re.csizes xs + Re.csizes ys
  | [], ys => by simp [Re.csizes]
  | t :: ts, ys => by rw [List.cons_append, Re.csizes, Re.csizes, Re.csizes_app ts ys]; omega
theorem Re.gens_app : ∀ (xs ys : List Re) (n : Nat), Re.gens (xs ++ ys) n = Re.gens xs n ++ Re.gens ys (n + Re.csizes xs)
  | [], ys, n => by simp [Re.gens, Re.csizes]
  | t :: ts, ys, n => by rw [List.cons_append, Re.gens, Re.gens, Re.csizes, Re.gens_app ts ys, List.append_assoc, Nat.add_assoc]
theorem StR.kids {xs : List Re} {k : Nat} (hk : k < xs.length) {L M N : List Inst} {a b c : Bool} (h : StR (Re.csizes (xs.take k)) (Re.gens (xs.take k)) L a M b) (h2 : StR xs[k].csize xs[k].gen M b N c) : StR (Re.csizes (xs.take (k + 1))) (Re.gens (xs.take (k + 1))) L a N c := by
  have htk : xs.take (k + 1) = xs.take k ++ [xs[k]] := by rw [List.take_add_one, List.getElem?_eq_getElem hk]; rfl
  have h3 := h.trans h2 (Re.gens_len _)
  have e1 : Re.csizes (xs.take (k + 1)) = Re.csizes (xs.take k) + xs[k].csize := by rw [htk, Re.csizes_app]; simp [Re.csizes]
  have e2 : Re.gens (xs.take (k + 1)) = fun n => Re.gens (xs.take k) n ++ xs[k].gen (n + Re.csizes (xs.take k)) := by
    funext n
    rw [htk, Re.gens_app]; simp [Re.gens]
  rw [e1, e2]
  exact h3
theorem FrB.go0 {go go1 : Option Nat} {w : World} {o : Obj} (h : GoTo (w.alloc o) go go1) : GoTo w go go1 := by
  rcases h with h | ⟨g, h, h2⟩
  · exact .inl h
  · exact .inr ⟨g, h, by simp at h2; omega⟩

-- def R9 := [.int .i64 p.op, .int .u64 p.set.a, .int .u64 p.set.b, .int .u64 p.set.c, .int .u64 p.set.d, .int .i64 p.lo, .int .i64 p.hi, .int .i64 p.gr, .slice ad xs.length cap]
-- def Q9 := [.int .i64 p'.op, .int .u64 p'.set.a, .int .u64 p'.set.b, .int .u64 p'.set.c, .int .u64 p'.set.d, .int .i64 p'.lo, .int .i64 p'.hi, .int .i64 p'.gr, .slice ad' n' cap']
end Go.Proofs.Ytnjcfggadeakpaa

/- The program's alt of two facts. -/
namespace Go.Proofs.Ytnjcfggadeakpaa
open Go.RowKit
attribute [local go_sem] gives givesUpon

-- def FA := .agg #[.bool a.null, .int .i64 a.least, .int .i64 a.most, .int .u64 a.first.a, .int .u64 a.first.b, .int .u64 a.first.c, .int .u64 a.first.d]
-- def FB := .agg #[.bool b.null, .int .i64 b.least, .int .i64 b.most, .int .u64 b.first.a, .int .u64 b.first.b, .int .u64 b.first.c, .int .u64 b.first.d]
-- def CA := [.bool a.null, .int .i64 a.least, .int .i64 a.most, .int .u64 a.first.a, .int .u64 a.first.b, .int .u64 a.first.c, .int .u64 a.first.d]
-- def CB := [.bool b.null, .int .i64 b.least, .int .i64 b.most, .int .u64 b.first.a, .int .u64 b.first.b, .int .u64 b.first.c, .int .u64 b.first.d]
-- def C0 := [.bool false, .int .i64 0, .int .i64 0, .int .u64 0, .int .u64 0, .int .u64 0, .int .u64 0]

end Go.Proofs.Ytnjcfggadeakpaa

/- Equality of sets, and the fields that a node may have. -/
namespace Go.Proofs.Ytnjcfggadeakpaa
open Go.RowKit

theorem info_u64 : (Try.prog.info? 38).map (fun i => (i.zero, i.size, i.bytes)) = some (some (.int .u64 0), 1, 8) := by kernel_rfl
theorem run_eqIn_cs (a b c d a' b' c' d' : Nat) (w : World) : (Op.equalIn 10000 41 (.agg #[.int .u64 a, .int .u64 b, .int .u64 c, .int .u64 d]) (.agg #[.int .u64 a', .int .u64 b', .int .u64 c', .int .u64 d'])).run Try.prog w = .ok (decide ((⟨a, b, c, d⟩ : Cs) = ⟨a', b', c', d'⟩)) w := by
  have hf : (Try.prog.fieldsOf 41).toList = [{ name := "Bits", type := 39, offset := 0, embedded := false, tag := "", pkgPath := "", byteOffset := 0 }] := by kernel_rfl
  obtain ⟨i, hi, _, _, _⟩ := info_parts info_u64
  have hc : Try.prog.cellsOf 38 = 1 := by kernel_rfl
  have key : decide ((⟨a, b, c, d⟩ : Cs) = ⟨a', b', c', d'⟩) = (((a : Int) == a') && ((b : Int) == b') && ((c : Int) == c') && ((d : Int) == d')) := by
    rw [Bool.eq_iff_iff]
    simp [and_assoc]
    omega
  rw [key, run_equalIn_agg _ 9999 41 _ _ (by kernel_rfl) (by kernel_rfl), hf]
  simp [Op.eqFields, go_sem]
  rw [run_equalIn_array _ 9998 _ _ Try.underlying39 hi, hc]
  simp [Op.eqItems, List.range_succ, go_sem]
  by_cases h1 : (a : Int) = a' <;> by_cases h2 : (b : Int) = b' <;> by_cases h3 : (c : Int) = c' <;> by_cases h4 : (d : Int) = d' <;> simp [h1, h2, h3, h4]

/-- Has a node with n arguments the fields of its operator? -/
def Pay.shaped (p : Pay) (n : Nat) : Bool :=
  if p.op = 1 ∨ p.op = 7 ∨ p.op = 8 then decide (n = 0) && (decide (p.lo = 0) && decide (p.hi = 0)) && decide (p.gr = 0) && decide (p.set = Cs.none)
  else if p.op = 2 then decide (n = 0) && (decide (p.lo = 0) && decide (p.hi = 0)) && decide (p.gr = 0) && !decide (p.set = Cs.none)
  else if p.op = 3 ∨ p.op = 4 then decide (2 ≤ n) && (decide (p.lo = 0) && decide (p.hi = 0)) && decide (p.gr = 0) && decide (p.set = Cs.none)
  else if p.op = 5 then decide (n = 1) && decide (p.gr = 0) && decide (p.set = Cs.none)
  else if p.op = 6 then decide (n = 1) && (decide (p.lo = 0) && decide (p.hi = 0)) && decide (p.set = Cs.none)
  else if p.op = 9 then decide (n = 0) && (decide (p.lo = 0) && decide (p.hi = 0)) && decide (p.set = Cs.none)
  else false

theorem eq_none (p : Pay) (w : World) : (Op.equalIn 10000 41 (.agg #[.int .u64 p.set.a, .int .u64 p.set.b, .int .u64 p.set.c, .int .u64 p.set.d]) (.agg #[.int .u64 0, .int .u64 0, .int .u64 0, .int .u64 0])).run Try.prog w = .ok (decide (p.set = Cs.none)) w :=
  run_eqIn_cs p.set.a p.set.b p.set.c p.set.d 0 0 0 0 w

set_option maxRecDepth 100000 in
set_option maxHeartbeats 4000000 in
theorem shapedRef_any (p : Pay) (ad : Option Addr) (n cap : Nat) (w : World) (hn : n ≤ maxLen) (_hop : I64 p.op) :
    Calls Try.prog 67 #[.agg #[.int .i64 p.op, .int .u64 p.set.a, .int .u64 p.set.b, .int .u64 p.set.c, .int .u64 p.set.d, .int .i64 p.lo, .int .i64 p.hi, .int .i64 p.gr, .slice ad n cap]] w fun e w' => e = .returned (.bool (p.shaped n)) ∧ Below w.heap.size w w' := by
  unfold maxLen at hn
  have heq := eq_none p
  have hd : ∃ b, p.shaped n = b := ⟨_, rfl⟩
  obtain ⟨b, hb⟩ := hd
  rw [hb]
  unfold Pay.shaped at hb
  generalize hz : decide (p.set = Cs.none) = z at heq hb
  have HB := hid hb
  clear hb hz
  cases z
  all_goals
    rcases (show p.op = 1 ∨ p.op = 2 ∨ p.op = 3 ∨ p.op = 4 ∨ p.op = 5 ∨ p.op = 6 ∨ p.op = 7 ∨ p.op = 8 ∨ p.op = 9 ∨ ¬ (1 ≤ p.op ∧ p.op ≤ 9) by omega) with h | h | h | h | h | h | h | h | h | h
  all_goals
    go_enter Try.func67, Try.ntmps67
    go_wp2
    all_goals
      go_ret
      refine ⟨ret_bool ?_, (Below.refl _ _).alloc (Nat.le_refl _) _⟩
      have hb := HB.out
      clear HB heq
      rw [Bool.eq_iff_iff, ← hb]
      clear hb
      first | (simp_all; done) | (simp_all; omega)

end Go.Proofs.Ytnjcfggadeakpaa

/- The fields that a node may have, as the program asks. -/
namespace Go.Proofs.Ytnjcfggadeakpaa
open Go.RowKit
attribute [local go_sem] gives givesUpon

end Go.Proofs.Ytnjcfggadeakpaa

/- The checker of trees: what one node, and those below it, do to it. -/
namespace Go.Proofs.Ytnjcfggadeakpaa
open Go.RowKit
attribute [local go_sem] gives givesUpon

structure Ck where
  shape : Bool
  bounds : Bool
  name : Bool
  nodes : Nat
  groups : Nat
  closed : Int → Bool

def Pay.badRep (p : Pay) : Bool := decide (p.lo < 0) || decide (64 < p.lo) || (decide (p.hi ≠ -1) && (decide (p.hi < p.lo) || decide (64 < p.hi)))
def Ck.pre (c : Ck) (p : Pay) (n : Nat) : Ck :=
  { shape := c.shape || !p.shaped n, bounds := c.bounds || (decide (p.op = 5) && p.badRep) || (decide (p.op = 6) && decide (p.gr ≠ c.groups + 1)), name := c.name || (decide (p.op = 9) && !c.closed p.gr),
    nodes := c.nodes + 1, groups := c.groups + if p.op = 6 then 1 else 0, closed := c.closed }
def Ck.post (c : Ck) (p : Pay) (own : Nat) : Ck := if p.op = 6 ∧ p.gr = own then { c with closed := fun k => decide (k = own) || c.closed k } else c
mutual
/-- The checker behind a tree, and the tree's levels. -/
def Re.check : Re → Ck → Ck × Nat
  | .mk p xs, c => ((Re.checks xs (c.pre p xs.length) 0).1.post p (c.pre p xs.length).groups, (Re.checks xs (c.pre p xs.length) 0).2 + 1)
def Re.checks : List Re → Ck → Nat → Ck × Nat
  | [], c, l => (c, l)
  | t :: ts, c, l => Re.checks ts (t.check c).1 (max l (t.check c).2)
end

mutual
theorem Re.check_nodes : ∀ (t : Re) (c : Ck), (t.check c).1.nodes = c.nodes + t.size
  | .mk p xs, c => by
    have h := Re.checks_nodes xs (c.pre p xs.length) 0
    rw [Re.check, Re.size_mk]
    have e : ∀ (d : Ck) (p : Pay) (n : Nat), (d.post p n).nodes = d.nodes := by intro d p n; unfold Ck.post; split <;> rfl
    rw [e, h]
    show c.nodes + 1 + _ = _
    omega
theorem Re.checks_nodes : ∀ (xs : List Re) (c : Ck) (l : Nat), (Re.checks xs c l).1.nodes = c.nodes + Re.sizes xs
  | [], c, l => by simp [Re.checks, Re.sizes, Re.counts]
  | t :: ts, c, l => by
    rw [Re.checks, Re.checks_nodes ts, Re.check_nodes t]
    simp only [Re.sizes, Re.counts, Re.size]; omega
end
mutual
theorem Re.check_groups : ∀ (t : Re) (c : Ck), (t.check c).1.groups = c.groups + t.groups
  | .mk p xs, c => by
    have h := Re.checks_groups xs (c.pre p xs.length) 0
    rw [Re.check]
    have e : ∀ (d : Ck) (p : Pay) (n : Nat), (d.post p n).groups = d.groups := by intro d p n; unfold Ck.post; split <;> rfl
    rw [e, h]
    simp only [Ck.pre, Re.groups, Re.count]
    by_cases ho : p.op = 6 <;> simp [ho] <;> omega
theorem Re.checks_groups : ∀ (xs : List Re) (c : Ck) (l : Nat), (Re.checks xs c l).1.groups = c.groups + Re.counts (· == 6) xs
  | [], c, l => by simp [Re.checks, Re.counts]
  | t :: ts, c, l => by
    rw [Re.checks, Re.checks_groups ts, Re.check_groups t]
    simp only [Re.counts, Re.groups]; omega
end
theorem Re.checks_take : ∀ (xs : List Re) (k : Nat) (a : Re) (c : Ck) (l : Nat), xs[k]? = some a →
    Re.checks (xs.take (k + 1)) c l = ((a.check (Re.checks (xs.take k) c l).1).1, max (Re.checks (xs.take k) c l).2 (a.check (Re.checks (xs.take k) c l).1).2)
  | t :: ts, 0, a, c, l, h => by simp at h; subst h; simp [Re.checks]
  | t :: ts, k + 1, a, c, l, h => by
    have := Re.checks_take ts k a (t.check c).1 (max l (t.check c).2) (by simpa using h)
    simp only [List.take_succ_cons, Re.checks]
    exact this
mutual
theorem Re.check_levels : ∀ (t : Re) (c : Ck), (t.check c).2 ≤ t.size
  | .mk p xs, c => by
    have h := Re.checks_levels xs (c.pre p xs.length) 0
    rw [Re.check, Re.size_mk]
    simp only
    omega
theorem Re.checks_levels : ∀ (xs : List Re) (c : Ck) (l : Nat), (Re.checks xs c l).2 ≤ max l (Re.sizes xs)
  | [], c, l => by simp [Re.checks]; omega
  | t :: ts, c, l => by
    have h1 := Re.check_levels t c
    have h2 := Re.checks_levels ts (t.check c).1 (max l (t.check c).2)
    rw [Re.checks]
    simp only [Re.sizes, Re.counts, Re.size] at *; omega
end

def onOff (f : Int → Bool) (k : Int) : Option Value := if f k then some (.bool true) else none

theorem Row.c7 {w : World} {B : Nat} {a b c d e f g : Value} {T : TypeId} (h : Row w B [a, b, c, d, e, f, g] T) :
    (w.cell? ⟨B, 0, none⟩ = some a ∧ w.cell? ⟨B, 1, none⟩ = some b ∧ w.cell? ⟨B, 2, none⟩ = some c ∧ w.cell? ⟨B, 3, none⟩ = some d ∧ w.cell? ⟨B, 4, none⟩ = some e ∧ w.cell? ⟨B, 5, none⟩ = some f ∧ w.cell? ⟨B, 6, none⟩ = some g) ∧
    (w.frozen? ⟨B, 0, none⟩ = false ∧ w.frozen? ⟨B, 1, none⟩ = false ∧ w.frozen? ⟨B, 2, none⟩ = false ∧ w.frozen? ⟨B, 3, none⟩ = false ∧ w.frozen? ⟨B, 4, none⟩ = false ∧ w.frozen? ⟨B, 5, none⟩ = false ∧ w.frozen? ⟨B, 6, none⟩ = false) :=
  ⟨⟨h.cell 0, h.cell 1, h.cell 2, h.cell 3, h.cell 4, h.cell 5, h.cell 6⟩, h.free 0, h.free 1, h.free 2, h.free 3, h.free 4, h.free 5, h.free 6⟩


/-- The checker behind the first two statements. -/
def Ck.pre0 (c : Ck) (p : Pay) (n : Nat) : Ck := { c with shape := c.shape || !p.shaped n, nodes := c.nodes + 1 }


end Go.Proofs.Ytnjcfggadeakpaa

/- The plain law of the check of trees: what the checker collects is what the four questions ask. No program. -/
namespace Go.Proofs.Ytnjcfggadeakpaa
open Go.RowKit

mutual
def Re.typed : Re → Bool
  | .mk p xs => p.shaped xs.length && Re.typeds xs
def Re.typeds : List Re → Bool
  | [] => true
  | t :: ts => t.typed && Re.typeds ts
end
mutual
/-- The number of groups before and in a tree, if its bounds and numbers are right. -/
def Re.ranged : Re → Nat → Option Nat
  | .mk p xs, b => if p.op = 5 ∧ p.badRep = true then none else if p.op = 6 then (if p.gr = b + 1 then Re.rangeds xs (b + 1) else none) else Re.rangeds xs b
def Re.rangeds : List Re → Nat → Option Nat
  | [], b => some b
  | t :: ts, b => match t.ranged b with
    | some n => Re.rangeds ts n
    | none => none
end
mutual
/-- The groups that are closed behind a tree, if its references are right. -/
def Re.named : Re → List Int → Option (List Int)
  | .mk p xs, l => if p.op = 9 ∧ p.gr ∉ l then none else match Re.nameds xs l with
    | some l' => if p.op = 6 then some (l' ++ [p.gr]) else some l'
    | none => none
def Re.nameds : List Re → List Int → Option (List Int)
  | [], l => some l
  | t :: ts, l => match t.named l with
    | some l' => Re.nameds ts l'
    | none => none
end
mutual
def Re.levels : Re → Nat
  | .mk _ xs => Re.levelss xs + 1
def Re.levelss : List Re → Nat
  | [] => 0
  | t :: ts => max t.levels (Re.levelss ts)
end
/-- The error of a tree: its number. -/
def Re.err (t : Re) : Int :=
  if t.typed = false then 7 else if (t.ranged 0).isNone then 2 else if (t.named []).isNone then 4 else if 600 < t.size ∨ 9 < t.groups ∨ 32 < t.levels then 3 else 0

theorem post_shape (c : Ck) (p : Pay) (n : Nat) : (c.post p n).shape = c.shape := by unfold Ck.post; split <;> rfl
theorem post_bounds (c : Ck) (p : Pay) (n : Nat) : (c.post p n).bounds = c.bounds := by unfold Ck.post; split <;> rfl
theorem post_name (c : Ck) (p : Pay) (n : Nat) : (c.post p n).name = c.name := by unfold Ck.post; split <;> rfl
mutual
theorem Re.check_shape : ∀ (t : Re) (c : Ck), (t.check c).1.shape = (c.shape || !t.typed)
  | .mk p xs, c => by
    rw [Re.check, post_shape, Re.checks_shape xs, Re.typed]
    show ((c.shape || !p.shaped xs.length) || _) = _
    cases c.shape <;> cases p.shaped xs.length <;> simp
theorem Re.checks_shape : ∀ (xs : List Re) (c : Ck) (l : Nat), (Re.checks xs c l).1.shape = (c.shape || !Re.typeds xs)
  | [], c, l => by simp [Re.checks, Re.typeds]
  | t :: ts, c, l => by
    rw [Re.checks, Re.checks_shape ts, Re.check_shape t, Re.typeds]
    cases c.shape <;> cases t.typed <;> simp
end
mutual
theorem Re.ranged_groups : ∀ (t : Re) (b n : Nat), t.ranged b = some n → n = b + t.groups
  | .mk p xs, b, n, h => by
    rw [Re.ranged] at h
    simp only [Re.groups, Re.count]
    split at h
    · cases h
    · split at h
      · rename_i h6
        split at h
        · have := Re.rangeds_groups xs (b + 1) n h; simp [h6]; omega
        · cases h
      · rename_i h6
        have := Re.rangeds_groups xs b n h; simp [h6]; omega
theorem Re.rangeds_groups : ∀ (xs : List Re) (b n : Nat), Re.rangeds xs b = some n → n = b + Re.counts (· == 6) xs
  | [], b, n, h => by simp [Re.rangeds] at h; simp [Re.counts, h]
  | t :: ts, b, n, h => by
    rw [Re.rangeds] at h
    split at h
    · rename_i m hm
      have h1 := Re.ranged_groups t b m hm
      have h2 := Re.rangeds_groups ts m n h
      simp only [Re.counts, Re.groups] at *; omega
    · cases h
end
mutual
theorem Re.check_bounds : ∀ (t : Re) (c : Ck), (t.check c).1.bounds = (c.bounds || (t.ranged c.groups).isNone)
  | .mk p xs, c => by
    rw [Re.check, post_bounds, Re.checks_bounds xs, Re.ranged]
    by_cases h5 : p.op = 5
    · have e : (c.pre p xs.length).groups = c.groups := by simp [Ck.pre, h5]
      have e2 : (c.pre p xs.length).bounds = (c.bounds || p.badRep) := by simp [Ck.pre, h5]
      rw [e, e2]
      cases hb : p.badRep <;> simp [h5]
    · by_cases h6 : p.op = 6
      · have e : (c.pre p xs.length).groups = c.groups + 1 := by simp [Ck.pre, h6]
        have e2 : (c.pre p xs.length).bounds = (c.bounds || decide (p.gr ≠ c.groups + 1)) := by simp [Ck.pre, h6]
        rw [e, e2]
        by_cases hg : p.gr = c.groups + 1
        · simp [h6, hg]
        · simp [h6, hg]
      · have e : (c.pre p xs.length).groups = c.groups := by simp [Ck.pre, h6]
        have e2 : (c.pre p xs.length).bounds = c.bounds := by simp [Ck.pre, h5, h6]
        rw [e, e2]
        simp [h5, h6]
theorem Re.checks_bounds : ∀ (xs : List Re) (c : Ck) (l : Nat), (Re.checks xs c l).1.bounds = (c.bounds || (Re.rangeds xs c.groups).isNone)
  | [], c, l => by simp [Re.checks, Re.rangeds]
  | t :: ts, c, l => by
    rw [Re.checks, Re.checks_bounds ts, Re.check_bounds t, Re.check_groups t, Re.rangeds]
    cases h : t.ranged c.groups with
    | none => simp
    | some n => rw [Re.ranged_groups t _ _ h]; simp
end
mutual
theorem Re.check_levels_eq : ∀ (t : Re) (c : Ck), (t.check c).2 = t.levels
  | .mk p xs, c => by rw [Re.check, Re.levels, Re.checks_levels_eq xs]; simp
theorem Re.checks_levels_eq : ∀ (xs : List Re) (c : Ck) (l : Nat), (Re.checks xs c l).2 = max l (Re.levelss xs)
  | [], c, l => by simp [Re.checks, Re.levelss]
  | t :: ts, c, l => by rw [Re.checks, Re.checks_levels_eq ts, Re.check_levels_eq t, Re.levelss]; omega
end
mutual
theorem Re.check_names : ∀ (t : Re) (c : Ck) (l : List Int), (t.ranged c.groups).isSome → (c.closed = fun k => decide (k ∈ l)) →
    (t.check c).1.name = (c.name || (t.named l).isNone) ∧ ∀ l', t.named l = some l' → (t.check c).1.closed = fun k => decide (k ∈ l')
  | .mk p xs, c, l, hr, hc => by
    rw [Re.ranged] at hr
    rw [Re.check, Re.named]
    have hr' : (Re.rangeds xs (c.pre p xs.length).groups).isSome ∧ (p.op = 6 → p.gr = c.groups + 1) := by
      by_cases h5 : p.op = 5 ∧ p.badRep = true
      · simp [h5] at hr
      · rw [if_neg h5] at hr
        by_cases h6 : p.op = 6
        · rw [if_pos h6] at hr
          by_cases hg : p.gr = c.groups + 1
          · rw [if_pos hg] at hr
            exact ⟨by simpa [Ck.pre, h6] using hr, fun _ => hg⟩
          · rw [if_neg hg] at hr; simp at hr
        · rw [if_neg h6] at hr
          exact ⟨by simpa [Ck.pre, h6] using hr, fun h => absurd h h6⟩
    obtain ⟨hr1, hr2⟩ := hr'
    obtain ⟨h1, h2⟩ := Re.checks_names xs (c.pre p xs.length) 0 l hr1 (by show c.closed = _; exact hc)
    rw [post_name, h1]
    by_cases h9 : p.op = 9
    · have hn : (c.pre p xs.length).name = (c.name || !decide (p.gr ∈ l)) := by simp [Ck.pre, h9, hc]
      rw [hn]
      by_cases hm : p.gr ∈ l
      · have e6 : ¬ p.op = 6 := by omega
        simp only [h9, hm]
        cases hx : Re.nameds xs l with
        | none => simp
        | some l'' => simp [h2 l'' hx, Ck.post, h9]
      · simp [h9, hm]
    · have hn : (c.pre p xs.length).name = c.name := by simp [Ck.pre, h9]
      rw [hn]
      cases hx : Re.nameds xs l with
      | none => simp [h9]
      | some l'' =>
        by_cases h6 : p.op = 6
        · have hg := hr2 h6
          have ho : (c.pre p xs.length).groups = c.groups + 1 := by simp [Ck.pre, h6]
          simp only [h6]
          refine ⟨by simp, fun l' hl' => ?_⟩
          simp at hl'
          subst hl'
          rw [Ck.post, if_pos ⟨h6, by rw [hg, ho]; simp⟩]
          funext k
          simp only [h2 l'' hx, ho]
          rw [Bool.eq_iff_iff]
          simp [hg]
          exact or_comm
        · simp only [h6, h9]
          refine ⟨by simp, fun l' hl' => ?_⟩
          simp at hl'
          subst hl'
          rw [Ck.post, if_neg (fun h => h6 h.1)]
          exact h2 l'' hx
theorem Re.checks_names : ∀ (xs : List Re) (c : Ck) (m : Nat) (l : List Int), (Re.rangeds xs c.groups).isSome → (c.closed = fun k => decide (k ∈ l)) →
    (Re.checks xs c m).1.name = (c.name || (Re.nameds xs l).isNone) ∧ ∀ l', Re.nameds xs l = some l' → (Re.checks xs c m).1.closed = fun k => decide (k ∈ l')
  | [], c, m, l, hr, hc => by simp [Re.checks, Re.nameds]; exact hc
  | t :: ts, c, m, l, hr, hc => by
    rw [Re.rangeds] at hr
    rw [Re.checks, Re.nameds]
    cases hx : t.ranged c.groups with
    | none => rw [hx] at hr; simp at hr
    | some n =>
      rw [hx] at hr
      obtain ⟨h1, h2⟩ := Re.check_names t c l (by rw [hx]; rfl) hc
      have hn := Re.ranged_groups t _ _ hx
      cases hy : t.named l with
      | none =>
        rw [hy] at h1
        have key : ∀ (xs : List Re) (c : Ck) (m : Nat), c.name = true → (Re.checks xs c m).1.name = true := fun xs c m hc => Re.checks_name_true xs c m hc
        refine ⟨?_, fun l' hl' => by simp at hl'⟩
        rw [key _ _ _ (by rw [h1]; simp)]; simp
      | some l1 =>
        have h3 := h2 l1 hy
        obtain ⟨h4, h5⟩ := Re.checks_names ts (t.check c).1 (max m (t.check c).2) l1 (by rw [Re.check_groups, ← hn]; exact hr) h3
        rw [hy] at h1
        refine ⟨?_, h5⟩
        rw [h4, h1]; simp
theorem Re.check_name_true : ∀ (t : Re) (c : Ck), c.name = true → (t.check c).1.name = true
  | .mk p xs, c, h => by rw [Re.check, post_name]; exact Re.checks_name_true xs _ _ (by simp [Ck.pre, h])
theorem Re.checks_name_true : ∀ (xs : List Re) (c : Ck) (m : Nat), c.name = true → (Re.checks xs c m).1.name = true
  | [], c, m, h => by simpa [Re.checks] using h
  | t :: ts, c, m, h => by rw [Re.checks]; exact Re.checks_name_true ts _ _ (Re.check_name_true t c h)
end

def Ck.init : Ck := { shape := false, bounds := false, name := false, nodes := 0, groups := 0, closed := fun _ => false }
/-- The error that the checker tells. -/
def Ck.err (c : Ck) (levels : Nat) : Int := if c.shape then 7 else if c.bounds then 2 else if c.name then 4 else if 600 < c.nodes ∨ 9 < c.groups ∨ 32 < levels then 3 else 0
theorem Re.err_check (t : Re) : (t.check Ck.init).1.err (t.check Ck.init).2 = t.err := by
  unfold Ck.err Re.err
  rw [Re.check_shape, Re.check_bounds, Re.check_levels_eq, Re.check_nodes, Re.check_groups]
  have e1 : Ck.init.shape = false := rfl
  have e2 : Ck.init.bounds = false := rfl
  have e3 : Ck.init.groups = 0 := rfl
  have e4 : Ck.init.nodes = 0 := rfl
  rw [e1, e2, e3, e4]
  cases ht : t.typed
  · simp
  · cases hr : t.ranged 0 with
    | none => simp
    | some n =>
      have h := (Re.check_names t Ck.init [] (by rw [e3, hr]; rfl) (by funext k; simp [Ck.init])).1
      rw [h]
      have e5 : Ck.init.name = false := rfl
      rw [e5]
      cases hn : t.named [] <;> simp
end Go.Proofs.Ytnjcfggadeakpaa
