/- Reback: the end of a search keeps the spans. -/
import Derived.Test.YthnpbopnpdlmnaaB29
import Derived.Test.YthnpbopnpdlmnaaB03
import Derived.Test.YthnpbopnpdlmnaaB02
import Derived.Test.YthnpbopnpdlmnaaB04
import Derived.RegionTactic
import Derived.BigRegion
import Derived.Deep.QuietTactic
import Derived.BigQuiet
namespace Go.Proofs.Ythnpbopnpdlmnaa
open Go.RowKit
attribute [local go_sem] gives givesUpon

set_option maxHeartbeats 1000000 in
theorem endB_any (w : World) (G : Nat) (old : Value) (a : Option Addr) (n c : Nat) (h : Row w G [old] 38) :
    Calls Try.prog 88 #[.slice a n c, .pointer (some ⟨G, 0, none⟩)] w fun e w' => e = .returned (.bool true) ∧ Row w' G [.slice a n c] 38 ∧ But [G] w w' ∧ w'.heap.size = w.heap.size := by
  have q := h.cell 0
  have qf := h.free 0
  have HR := hid h
  clear h
  go_enter Try.func88, Try.ntmps88
  go_wp2_with fail
  all_goals (try go_ret)
  all_goals exact ⟨rfl, HR.out.set 0 _, (But.refl _ w).setCell (.inl (by simp)) _, by simp [World.setCell]⟩
variable {C : Ctx}
theorem next_done (n : Nat) : NextC C n .done := by
  intro w sp sv fid cap h
  obtain ⟨h1, h2, h3, h4, h5⟩ := h
  obtain ⟨old, hg⟩ := h1.g
  obtain ⟨a, c, rfl⟩ := h2.form
  cases h4
  refine (endB_any w C.G old a sp.length c hg).mono ?_
  rintro e w' ⟨rfl, hr, hb, hs⟩
  have hb' : But C.S w w' := hb.mono (fun k hk => .inl (by rw [List.mem_singleton.1 hk]; simp [Ctx.S]))
  refine ⟨.found sp, n, .nextDone, rfl, ?_, hb', fun l hl => ?_⟩
  · refine ⟨?_, h1.m.but hb (by simpa using h1.ne), h1.mb.but hb (fun hm => h1.mbS (by simp [Ctx.S] at hm ⊢; exact .inr hm)), ⟨_, hr⟩, h1.oM, h1.oG, h1.nB, h1.big, h1.len, h1.few⟩
    exact h1.below.trans (hb.below h1.below.size (fun k hk => by rw [List.mem_singleton.1 hk]; exact h1.oG))
  · injection hl with hl
    subst hl
    exact ⟨h3, _, hr, h2.but hb'⟩
end Go.Proofs.Ythnpbopnpdlmnaa

/- Reback: the trees without parts. -/
namespace Go.Proofs.Ythnpbopnpdlmnaa
open Go.RowKit
attribute [local go_sem] gives givesUpon
variable {C : Ctx}

theorem not_part {p : Pay} {a : Int} (h : p.op = a) (h3 : a ≠ 3 := by decide) (h4 : a ≠ 4 := by decide) (h5 : a ≠ 5 := by decide) (h6 : a ≠ 6 := by decide) : ¬ partOp p := by
  unfold partOp; omega
/-- A leaf that does not match. -/
theorem Good.leafNo {p : Pay} {xs : List Re} {i k n D : Nat} {sp : Spans} {K : Kont} {sv nv : Value} {w w' : World} (h : Pre C n D sp K sv nv w) (hb : Below w.heap.size w w') (hp : ¬ partOp p) (hn : plainOf C.str C.lines p i k sp = false) :
    Good C (Ev C.str C.lines (.try (.mk p xs) i k) sp K (n + 1)) w (.returned (.bool false)) w' :=
  ⟨.fail, n, .leafFail hp hn, rfl, h.st.later hb, But.of_below hb, fun l hl => by cases hl⟩
theorem Good.leafYes {p : Pay} {xs : List Re} {i k n : Nat} {sp : Spans} {K : Kont} {w : World} {e : Ending} {w' : World} (h : Good C (Ev C.str C.lines .next sp K n) w e w') (hp : ¬ partOp p) (hn : plainOf C.str C.lines p i k sp = true) :
    Good C (Ev C.str C.lines (.try (.mk p xs) i k) sp K (n + 1)) w e w' := h.mono fun _ _ he => .leaf hp hn he

theorem Row.two {w : World} {B : Nat} {a b : Value} {T : TypeId} (h : Row w B [a, b] T) : w.cell? ⟨B, 0, none⟩ = some a ∧ w.cell? ⟨B, 1, none⟩ = some b := ⟨h.cell 0, h.cell 1⟩
theorem leafHC {n D : Nat} {sp : Spans} {K : Kont} {sv nv : Value} {w x : World} {cs : List Value} (h : Pre C n D sp K sv nv w) (hx : Grow (w.alloc (.cells cs.toArray 138)).drew x) : Row x w.heap.size cs 138 ∧ C.St n false x :=
  have hb : Below _ (w.alloc (.cells cs.toArray 138)) x := ⟨hx.os, hx.tape, hx.output, hx.size, hx.block⟩
  ⟨(Row.new rfl).below hb (by simp), ((h.later ((Below.refl w.heap.size w).alloc (Nat.le_refl _) _)).later hb).st⟩

set_option maxHeartbeats 2000000 in
theorem empty_any (n : Nat) (K : Kont) (HN : NextC C n K) (w : World) (p : Pay) (xs : List Re) (ta : Option Addr) (tn tc i k : Nat) (sp : Spans) (sa : Option Addr) (sn sc fid : Nat) (cap : Array Value) (h : Pre C n (C.B - n) sp K (.slice sa sn sc) (.func (.func fid) #[] cap) w) (ho : p.op = 1) (hi : i ≤ 1000000) (_hk : k ≤ 1000000) :
    Calls Try.prog 75 #[.agg #[.int .i64 p.op, .int .u64 p.set.a, .int .u64 p.set.b, .int .u64 p.set.c, .int .u64 p.set.d, .int .i64 p.lo, .int .i64 p.hi, .int .i64 p.gr, .slice ta tn tc, .int .i64 i, .int .i64 k, .slice sa sn sc, .func (.func fid) #[] cap]] w (Good C (Ev C.str C.lines (.try (.mk p xs) i k) sp K (n + 1)) w) := by
  have HP := hid h
  have HR := hid (Row.new (w := w) (B := w.heap.size) (cs := [.int .i64 p.op, .int .u64 p.set.a, .int .u64 p.set.b, .int .u64 p.set.c, .int .u64 p.set.d, .int .i64 p.lo, .int .i64 p.hi, .int .i64 p.gr, .slice ta tn tc, .int .i64 i, .int .i64 k, .slice sa sn sc, .func (.func fid) #[] cap]) (T := 138) rfl)
  have HB := hid ((Below.refl w.heap.size w).alloc (Nat.le_refl _) (.cells #[.int .i64 p.op, .int .u64 p.set.a, .int .u64 p.set.b, .int .u64 p.set.c, .int .u64 p.set.d, .int .i64 p.lo, .int .i64 p.hi, .int .i64 p.gr, .slice ta tn tc, .int .i64 i, .int .i64 k, .slice sa sn sc, .func (.func fid) #[] cap] 138))
  have HNN := hid HN
  have q := HR.out.c13
  have HO := hid ho
  clear h HN ho
  by_cases hki : k = i
  · subst hki
    have HPL : Hid (plainOf C.str C.lines p k k sp = true) := by show _ = _; unfold plainOf; simp [HO.out]
    have hent := HP.out.k.enter
    go_enter Try.func75, Try.ntmps75
    go_wp2_with fail
    refine (HNN.out _ _ _ _ _ (HP.out.later HB.out)).mono ?_
    rintro e w' ⟨o, m, h1, rfl, h3, h4, h5⟩
    have HG : Hid (Good C (Ev C.str C.lines .next sp K n) w (.returned (.bool o.isFound)) w') := ⟨o, m, h1, rfl, h3, (But.of_below HB.out).trans h4, h5⟩
    clear h1 h3 h4 h5
    generalize o.isFound = fo at *
    go_wp2_with fail
    go_ret
    exact HG.out.leafYes (not_part HO.out) HPL.out
  · have d2 : ((k : Int) == (i : Int)) = false := by simp; omega
    have HPL : Hid (plainOf C.str C.lines p i k sp = false) := by show _ = _; unfold plainOf; simp [HO.out, hki]
    have hent := HP.out.k.enter
    go_enter Try.func75, Try.ntmps75
    go_wp2_with fail
    go_ret
    exact Good.leafNo HP.out HB.out (not_part HO.out) HPL.out

-- LEAVES
end Go.Proofs.Ythnpbopnpdlmnaa
