/- What is known of a tree: nullable, lengths, first bytes. The program's cat and alt of two such facts. -/
import Derived.Test.YtnnocekencaadaaG05
import Derived.Test.YtnnocekencaadaaG02
import Derived.RegionTactic
import Derived.BigRegion
import Derived.Deep.QuietTactic
import Derived.BigQuiet
namespace Go.Proofs.Ytnnocekencaadaa
open Go.RowKit
attribute [local go_sem] gives givesUpon

-- def FA := .agg #[.bool a.null, .int .i64 a.least, .int .i64 a.most, .int .u64 a.first.a, .int .u64 a.first.b, .int .u64 a.first.c, .int .u64 a.first.d]
-- def FB := .agg #[.bool b.null, .int .i64 b.least, .int .i64 b.most, .int .u64 b.first.a, .int .u64 b.first.b, .int .u64 b.first.c, .int .u64 b.first.d]
-- def CA := [.bool a.null, .int .i64 a.least, .int .i64 a.most, .int .u64 a.first.a, .int .u64 a.first.b, .int .u64 a.first.c, .int .u64 a.first.d]
-- def CB := [.bool b.null, .int .i64 b.least, .int .i64 b.most, .int .u64 b.first.a, .int .u64 b.first.b, .int .u64 b.first.c, .int .u64 b.first.d]
-- def C0 := [.bool false, .int .i64 0, .int .i64 0, .int .u64 0, .int .u64 0, .int .u64 0, .int .u64 0]

def Grow (x y : World) : Prop := Below x.heap.size x y
theorem Grow.refl (x : World) : Grow x x := Below.refl _ x
theorem Grow.trans {x y z : World} (h : Grow x y) (k : Grow y z) : Grow x z := Below.trans h (k.mono h.size)
theorem Grow.alloc (x : World) (o : Obj) : Grow x (x.alloc o) := (Below.refl _ x).alloc (Nat.le_refl _) _
theorem Grow.size {x y : World} (h : Grow x y) : x.heap.size ≤ y.heap.size := Below.size h

structure Facts where
  null : Bool
  least : Int
  most : Int
  first : Cs
deriving DecidableEq
structure Facts.wf (f : Facts) : Prop where
  least : Len f.least
  most : Len f.most
  first : f.first.wf
def Facts.cells (f : Facts) : List Value := [.bool f.null, .int .i64 f.least, .int .i64 f.most, .int .u64 f.first.a, .int .u64 f.first.b, .int .u64 f.first.c, .int .u64 f.first.d]
def Facts.cat (a b : Facts) : Facts := ⟨a.null && b.null, lsum a.least b.least, lsum a.most b.most, if a.null then a.first.union b.first else a.first⟩
def Facts.alt (a b : Facts) : Facts := ⟨a.null || b.null, min a.least b.least, if a.most < 0 ∨ b.most < 0 then -1 else max a.most b.most, a.first.union b.first⟩

theorem Row.c7f {w : World} {B : Nat} {a b c d e f g : Value} {T : TypeId} (h : Row w B [a, b, c, d, e, f, g] T) :
    (w.cell? ⟨B, 0, none⟩ = some a ∧ w.cell? ⟨B, 1, none⟩ = some b ∧ w.cell? ⟨B, 2, none⟩ = some c ∧ w.cell? ⟨B, 3, none⟩ = some d ∧ w.cell? ⟨B, 4, none⟩ = some e ∧ w.cell? ⟨B, 5, none⟩ = some f ∧ w.cell? ⟨B, 6, none⟩ = some g) ∧
    (w.frozen? ⟨B, 0, none⟩ = false ∧ w.frozen? ⟨B, 1, none⟩ = false ∧ w.frozen? ⟨B, 2, none⟩ = false ∧ w.frozen? ⟨B, 3, none⟩ = false ∧ w.frozen? ⟨B, 4, none⟩ = false ∧ w.frozen? ⟨B, 5, none⟩ = false ∧ w.frozen? ⟨B, 6, none⟩ = false) :=
  ⟨⟨h.cell 0, h.cell 1, h.cell 2, h.cell 3, h.cell 4, h.cell 5, h.cell 6⟩, h.free 0, h.free 1, h.free 2, h.free 3, h.free 4, h.free 5, h.free 6⟩

theorem Row.set7 {w : World} {B : Nat} {a b c d e f g : Value} {T : TypeId} (h : Row w B [a, b, c, d, e, f, g] T) (a' b' c' d' e' f' g' : Value) : Row (((((((w.setCell ⟨B, 0, none⟩ a').setCell ⟨B, 1, none⟩ b').setCell ⟨B, 2, none⟩ c').setCell ⟨B, 3, none⟩ d').setCell ⟨B, 4, none⟩ e').setCell ⟨B, 5, none⟩ f').setCell ⟨B, 6, none⟩ g') B [a', b', c', d', e', f', g'] T :=
  ((((((h.set 0 _).set 1 _).set 2 _).set 3 _).set 4 _).set 5 _).set 6 _
theorem Row.other7 {w : World} {B B' : Nat} {cs : List Value} {T : TypeId} (h : Row w B cs T) (hn : B ≠ B') (a' b' c' d' e' f' g' : Value) : Row (((((((w.setCell ⟨B', 0, none⟩ a').setCell ⟨B', 1, none⟩ b').setCell ⟨B', 2, none⟩ c').setCell ⟨B', 3, none⟩ d').setCell ⟨B', 4, none⟩ e').setCell ⟨B', 5, none⟩ f').setCell ⟨B', 6, none⟩ g') B cs T :=
  ((((((h.other hn _ _).other hn _ _).other hn _ _).other hn _ _).other hn _ _).other hn _ _).other hn _ _
theorem below7 {n : Nat} {w x : World} {B : Nat} (h : Below n w x) (hB : n ≤ B) (a' b' c' d' e' f' g' : Value) : Below n w (((((((x.setCell ⟨B, 0, none⟩ a').setCell ⟨B, 1, none⟩ b').setCell ⟨B, 2, none⟩ c').setCell ⟨B, 3, none⟩ d').setCell ⟨B, 4, none⟩ e').setCell ⟨B, 5, none⟩ f').setCell ⟨B, 6, none⟩ g') :=
  ((((((h.setCell hB _).setCell hB _).setCell hB _).setCell hB _).setCell hB _).setCell hB _).setCell hB _

end Go.Proofs.Ytnnocekencaadaa

/- Reback: the trees without parts. -/
namespace Go.Proofs.Ytnnocekencaadaa
open Go.RowKit
attribute [local go_sem] gives givesUpon
variable {C : Ctx}

-- def TK := [.int .i64 p.op, .int .u64 p.set.a, .int .u64 p.set.b, .int .u64 p.set.c, .int .u64 p.set.d, .int .i64 p.lo, .int .i64 p.hi, .int .i64 p.gr, .slice ta tn tc, .int .i64 i, .int .i64 k, .slice sa sn sc, .func (.func fid) #[] cap]
theorem not_part {p : Pay} {a : Int} (h : p.op = a) (h3 : a ≠ 3 := by decide) (h4 : a ≠ 4 := by decide) (h5 : a ≠ 5 := by decide) (h6 : a ≠ 6 := by decide) : ¬ partOp p := by
  unfold partOp; omega
set_option maxHeartbeats 400000 in
theorem PHas_any (s : Cs) (c : Nat) (w : World) (hs : s.wf) (hc : c < 256) :
    Calls Try.prog 33 #[.agg #[.int .u64 s.a, .int .u64 s.b, .int .u64 s.c, .int .u64 s.d], .int .u8 c] w fun e w' => e = .returned (.bool (s.has c)) ∧ Below w.heap.size w w' := by
  have h1 : ((c : Int) / 64 = 0 ∨ (c : Int) / 64 = 1 ∨ (c : Int) / 64 = 2 ∨ (c : Int) / 64 = 3) := by omega
  have h0 : (0 : Int) ≤ c ∧ (c : Int) < 256 := by omega
  have h2 : 0 ≤ (c : Int) % 64 ∧ (c : Int) % 64 < 64 := by omega
  rcases h1 with h | h | h | h
  all_goals
    go_enter Try.func33, Try.ntmps33
    go_wp2
    go_ret
    refine ⟨congrArg (fun b => Ending.returned (.bool b)) ((has_bit _ _ ?_).trans ?_), (Below.refl _ _).alloc (Nat.le_refl _) _⟩
    · first | exact hs.a | exact hs.b | exact hs.c | exact hs.d
    · unfold Cs.has Cs.word
      first | (rw [show c / 64 = 0 by omega]; done) | (rw [show c / 64 = 0 by omega]; rfl) | (rw [show c / 64 = 1 by omega]; rfl) | (rw [show c / 64 = 2 by omega]; rfl) | (rw [show c / 64 = 3 by omega]; rfl)
/-- A leaf that does not match. -/
theorem Good.leafNo {p : Pay} {xs : List Re} {i k n D : Nat} {sp : Spans} {K : Kont} {sv nv : Value} {w w' : World} (h : Pre C n D sp K sv nv w) (hb : Below w.heap.size w w') (hp : ¬ partOp p) (hn : plainOf C.str C.lines p i k sp = false) :
    Good C (Ev C.str C.lines (.try (.mk p xs) i k) sp K (n + 1)) w (.returned (.bool false)) w' :=
  ⟨.fail, n, .leafFail hp hn, rfl, h.st.later hb, But.of_below hb, fun l hl => by cases hl⟩
theorem Good.leafYes {p : Pay} {xs : List Re} {i k n : Nat} {sp : Spans} {K : Kont} {w : World} {e : Ending} {w' : World} (h : Good C (Ev C.str C.lines .next sp K n) w e w') (hp : ¬ partOp p) (hn : plainOf C.str C.lines p i k sp = true) :
    Good C (Ev C.str C.lines (.try (.mk p xs) i k) sp K (n + 1)) w e w' := h.mono fun _ _ he => .leaf hp hn he

theorem Row.two {w : World} {B : Nat} {a b : Value} {T : TypeId} (h : Row w B [a, b] T) : w.cell? ⟨B, 0, none⟩ = some a ∧ w.cell? ⟨B, 1, none⟩ = some b := ⟨h.cell 0, h.cell 1⟩
theorem grow_below {w x : World} (hx : Grow w.drew x) : Below w.heap.size w x := ⟨hx.os, hx.tape, hx.output, hx.size, hx.block⟩
theorem Row.grow {w x : World} {B : Nat} {cs : List Value} {T : TypeId} (h : Row w B cs T) (hx : Grow w.drew x) : Row x B cs T := h.below (grow_below hx) h.lt
theorem byteAt_eq {s : ByteArray} {i : Nat} (hi : i < s.size) : byteAt s.data.toList i = s[i] := by
  have h : i < s.data.toList.length := by rw [Array.length_toList]; exact hi
  unfold byteAt
  rw [List.getD_eq_getElem?_getD, List.getElem?_eq_getElem h]
  rfl
theorem below_grow {n : Nat} {w a x : World} (h : Below n w a) (hn : n ≤ a.heap.size) (hx : Grow a.drew x) : Below n w x := h.trans ((⟨hx.os, hx.tape, hx.output, hx.size, hx.block⟩ : Below a.heap.size a x).mono hn)
theorem leafHC {n D : Nat} {sp : Spans} {K : Kont} {sv nv : Value} {w x : World} {cs : List Value} (h : Pre C n D sp K sv nv w) (hx : Grow (w.alloc (.cells cs.toArray 74)).drew x) : Row x w.heap.size cs 74 ∧ C.St n false x :=
  have hb : Below _ (w.alloc (.cells cs.toArray 74)) x := ⟨hx.os, hx.tape, hx.output, hx.size, hx.block⟩
  ⟨(Row.new rfl).below hb (by simp), ((h.later ((Below.refl w.heap.size w).alloc (Nat.le_refl _) _)).later hb).st⟩

set_option maxHeartbeats 2000000 in
theorem empty_any (n : Nat) (K : Kont) (HN : NextC C n K) (w : World) (p : Pay) (xs : List Re) (ta : Option Addr) (tn tc i k : Nat) (sp : Spans) (sa : Option Addr) (sn sc fid : Nat) (cap : Array Value) (h : Pre C n (C.B - n) sp K (.slice sa sn sc) (.func (.func fid) #[] cap) w) (ho : p.op = 1) (hi : i ≤ 1000000) (_hk : k ≤ 1000000) :
    Calls Try.prog 31 #[.agg #[.int .i64 p.op, .int .u64 p.set.a, .int .u64 p.set.b, .int .u64 p.set.c, .int .u64 p.set.d, .int .i64 p.lo, .int .i64 p.hi, .int .i64 p.gr, .slice ta tn tc, .int .i64 i, .int .i64 k, .slice sa sn sc, .func (.func fid) #[] cap]] w (Good C (Ev C.str C.lines (.try (.mk p xs) i k) sp K (n + 1)) w) := by
  have HP := hid h
  have HR := hid (Row.new (w := w) (B := w.heap.size) (cs := [.int .i64 p.op, .int .u64 p.set.a, .int .u64 p.set.b, .int .u64 p.set.c, .int .u64 p.set.d, .int .i64 p.lo, .int .i64 p.hi, .int .i64 p.gr, .slice ta tn tc, .int .i64 i, .int .i64 k, .slice sa sn sc, .func (.func fid) #[] cap]) (T := 74) rfl)
  have HB := hid ((Below.refl w.heap.size w).alloc (Nat.le_refl _) (.cells #[.int .i64 p.op, .int .u64 p.set.a, .int .u64 p.set.b, .int .u64 p.set.c, .int .u64 p.set.d, .int .i64 p.lo, .int .i64 p.hi, .int .i64 p.gr, .slice ta tn tc, .int .i64 i, .int .i64 k, .slice sa sn sc, .func (.func fid) #[] cap] 74))
  have HNN := hid HN
  have q := HR.out.c13
  have HO := hid ho
  clear h HN ho
  by_cases hki : k = i
  · subst hki
    have HPL : Hid (plainOf C.str C.lines p k k sp = true) := by show _ = _; unfold plainOf; simp [HO.out]
    have hent := HP.out.k.enter
    go_enter Try.func31, Try.ntmps31
    go_wp2_with fail
    refine (HNN.out _ _ _ _ _ (HP.out.later HB.out)).mono ?_
    rintro e w' ⟨o, m, h1, rfl, h3, h4, h5⟩
    have HG : Hid (Good C (Ev C.str C.lines .next sp K n) w (.returned (.bool o.isFound)) w') := ⟨o, m, h1, rfl, h3, (But.of_below HB.out).trans h4, h5⟩
    clear h1 h3 h4 h5
    generalize o.isFound = fo at *
    go_wp2_with fail
    go_ret
    exact HG.out.leafYes (not_part HO.out) HPL.out
  · have d2 : ((k : Int) == (i : Int)) = false := by simp; omega
    have HPL : Hid (plainOf C.str C.lines p i k sp = false) := by show _ = _; unfold plainOf; simp [HO.out, hki]
    have hent := HP.out.k.enter
    go_enter Try.func31, Try.ntmps31
    go_wp2_with fail
    go_ret
    exact Good.leafNo HP.out HB.out (not_part HO.out) HPL.out

-- LEAVES
end Go.Proofs.Ytnnocekencaadaa
