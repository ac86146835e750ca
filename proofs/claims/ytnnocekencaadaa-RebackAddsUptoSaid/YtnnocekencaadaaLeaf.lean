/- Reback: the trees without parts. -/
import Derived.Test.YtnnocekencaadaaEndB
import Derived.Test.YtnnocekencaadaaCs2
import Derived.Test.YtnnocekencaadaaInv
import Derived.Test.YtnnocekencaadaaFacts
import Derived.RegionTactic
import Derived.BigRegion
import Derived.Deep.QuietTactic
import Derived.BigQuiet
namespace Go.Proofs.Ytnnocekencaadaa
open Go.RowKit
attribute [local go_sem] gives givesUpon
variable {C : Ctx}

-- def TK := [.int .i64 p.op, .int .u64 p.set.a, .int .u64 p.set.b, .int .u64 p.set.c, .int .u64 p.set.d, .int .i64 p.lo, .int .i64 p.hi, .int .i64 p.gr, .slice ta tn tc, .int .i64 i, .int .i64 k, .slice sa sn sc, .func (.func fid) #[] cap]
theorem not_part {p : Pay} {a : Int} (h : p.op = a) (h3 : a ≠ 3 := by decide) (h4 : a ≠ 4 := by decide) (h5 : a ≠ 5 := by decide) (h6 : a ≠ 6 := by decide) : ¬ partOp p := by
  unfold partOp; omega
set_option maxHeartbeats 400000 in
theorem PHas_any (s : Cs) (c : Nat) (w : World) (hs : s.wf) (hc : c < 256) :
    Calls Try.prog 33 #[.agg #[.int .u64 s.a, .int .u64 s.b, .int .u64 s.c, .int .u64 s.d], .int .u8 c] w fun e w' => e = .returned (.bool (s.has c)) ∧ Below w.heap.size w w' := by
  have h1 : ((c : Int) / 64 = 0 ∨ (c : Int) / 64 = 1 ∨ (c : Int) / 64 = 2 ∨ (c : Int) / 64 = 3) := by omega
  have h0 : (0 : Int) ≤ c ∧ (c : Int) < 256 := by omega
  have h2 : 0 ≤ (c : Int) % 64 ∧ (c : Int) % 64 < 64 := by omega
  rcases h1 with h | h | h | h
  all_goals
    go_enter Try.func33, Try.ntmps33
    go_wp2
    go_ret
    refine ⟨congrArg (fun b => Ending.returned (.bool b)) ((has_bit _ _ ?_).trans ?_), (Below.refl _ _).alloc (Nat.le_refl _) _⟩
    · first | exact hs.a | exact hs.b | exact hs.c | exact hs.d
    · unfold Cs.has Cs.word
      first | (rw [show c / 64 = 0 by omega]; done) | (rw [show c / 64 = 0 by omega]; rfl) | (rw [show c / 64 = 1 by omega]; rfl) | (rw [show c / 64 = 2 by omega]; rfl) | (rw [show c / 64 = 3 by omega]; rfl)
/-- A leaf that does not match. -/
theorem Good.leafNo {p : Pay} {xs : List Re} {i k n D : Nat} {sp : Spans} {K : Kont} {sv nv : Value} {w w' : World} (h : Pre C n D sp K sv nv w) (hb : Below w.heap.size w w') (hp : ¬ partOp p) (hn : plainOf C.str C.lines p i k sp = false) :
    Good C (Ev C.str C.lines (.try (.mk p xs) i k) sp K (n + 1)) w (.returned (.bool false)) w' :=
  ⟨.fail, n, .leafFail hp hn, rfl, h.st.later hb, But.of_below hb, fun l hl => by cases hl⟩
theorem Good.leafYes {p : Pay} {xs : List Re} {i k n : Nat} {sp : Spans} {K : Kont} {w : World} {e : Ending} {w' : World} (h : Good C (Ev C.str C.lines .next sp K n) w e w') (hp : ¬ partOp p) (hn : plainOf C.str C.lines p i k sp = true) :
    Good C (Ev C.str C.lines (.try (.mk p xs) i k) sp K (n + 1)) w e w' := h.mono fun _ _ he => .leaf hp hn he

theorem Row.two {w : World} {B : Nat} {a b : Value} {T : TypeId} (h : Row w B [a, b] T) : w.cell? ⟨B, 0, none⟩ = some a ∧ w.cell? ⟨B, 1, none⟩ = some b := ⟨h.cell 0, h.cell 1⟩
theorem grow_below {w x : World} (hx : Grow w.drew x) : Below w.heap.size w x := ⟨hx.os, hx.tape, hx.output, hx.size, hx.block⟩
theorem Row.grow {w x : World} {B : Nat} {cs : List Value} {T : TypeId} (h : Row w B cs T) (hx : Grow w.drew x) : Row x B cs T := h.below (grow_below hx) h.lt
theorem byteAt_eq {s : ByteArray} {i : Nat} (hi : i < s.size) : byteAt s.data.toList i = s[i] := by
  have h : i < s.data.toList.length := by rw [Array.length_toList]; exact hi
  unfold byteAt
  rw [List.getD_eq_getElem?_getD, List.getElem?_eq_getElem h]
  rfl
theorem below_grow {n : Nat} {w a x : World} (h : Below n w a) (hn : n ≤ a.heap.size) (hx : Grow a.drew x) : Below n w x := h.trans ((⟨hx.os, hx.tape, hx.output, hx.size, hx.block⟩ : Below a.heap.size a x).mono hn)
theorem leafHC {n D : Nat} {sp : Spans} {K : Kont} {sv nv : Value} {w x : World} {cs : List Value} (h : Pre C n D sp K sv nv w) (hx : Grow (w.alloc (.cells cs.toArray 74)).drew x) : Row x w.heap.size cs 74 ∧ C.St n false x :=
  have hb : Below _ (w.alloc (.cells cs.toArray 74)) x := ⟨hx.os, hx.tape, hx.output, hx.size, hx.block⟩
  ⟨(Row.new rfl).below hb (by simp), ((h.later ((Below.refl w.heap.size w).alloc (Nat.le_refl _) _)).later hb).st⟩

set_option maxHeartbeats 2000000 in
theorem empty_any (n : Nat) (K : Kont) (HN : NextC C n K) (w : World) (p : Pay) (xs : List Re) (ta : Option Addr) (tn tc i k : Nat) (sp : Spans) (sa : Option Addr) (sn sc fid : Nat) (cap : Array Value) (h : Pre C n (C.B - n) sp K (.slice sa sn sc) (.func (.func fid) #[] cap) w) (ho : p.op = 1) (hi : i ≤ 1000000) (_hk : k ≤ 1000000) :
    Calls Try.prog 31 #[.agg #[.int .i64 p.op, .int .u64 p.set.a, .int .u64 p.set.b, .int .u64 p.set.c, .int .u64 p.set.d, .int .i64 p.lo, .int .i64 p.hi, .int .i64 p.gr, .slice ta tn tc, .int .i64 i, .int .i64 k, .slice sa sn sc, .func (.func fid) #[] cap]] w (Good C (Ev C.str C.lines (.try (.mk p xs) i k) sp K (n + 1)) w) := by
  have HP := hid h
  have HR := hid (Row.new (w := w) (B := w.heap.size) (cs := [.int .i64 p.op, .int .u64 p.set.a, .int .u64 p.set.b, .int .u64 p.set.c, .int .u64 p.set.d, .int .i64 p.lo, .int .i64 p.hi, .int .i64 p.gr, .slice ta tn tc, .int .i64 i, .int .i64 k, .slice sa sn sc, .func (.func fid) #[] cap]) (T := 74) rfl)
  have HB := hid ((Below.refl w.heap.size w).alloc (Nat.le_refl _) (.cells #[.int .i64 p.op, .int .u64 p.set.a, .int .u64 p.set.b, .int .u64 p.set.c, .int .u64 p.set.d, .int .i64 p.lo, .int .i64 p.hi, .int .i64 p.gr, .slice ta tn tc, .int .i64 i, .int .i64 k, .slice sa sn sc, .func (.func fid) #[] cap] 74))
  have HNN := hid HN
  have q := HR.out.c13
  have HO := hid ho
  clear h HN ho
  by_cases hki : k = i
  · subst hki
    have HPL : Hid (plainOf C.str C.lines p k k sp = true) := by show _ = _; unfold plainOf; simp [HO.out]
    have hent := HP.out.k.enter
    go_enter Try.func31, Try.ntmps31
    go_wp2_with fail
    refine (HNN.out _ _ _ _ _ (HP.out.later HB.out)).mono ?_
    rintro e w' ⟨o, m, h1, rfl, h3, h4, h5⟩
    have HG : Hid (Good C (Ev C.str C.lines .next sp K n) w (.returned (.bool o.isFound)) w') := ⟨o, m, h1, rfl, h3, (But.of_below HB.out).trans h4, h5⟩
    clear h1 h3 h4 h5
    generalize o.isFound = fo at *
    go_wp2_with fail
    go_ret
    exact HG.out.leafYes (not_part HO.out) HPL.out
  · have d2 : ((k : Int) == (i : Int)) = false := by simp; omega
    have HPL : Hid (plainOf C.str C.lines p i k sp = false) := by show _ = _; unfold plainOf; simp [HO.out, hki]
    have hent := HP.out.k.enter
    go_enter Try.func31, Try.ntmps31
    go_wp2_with fail
    go_ret
    exact Good.leafNo HP.out HB.out (not_part HO.out) HPL.out

-- LEAVES
end Go.Proofs.Ytnnocekencaadaa
