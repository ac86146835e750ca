/- Reback: the state of a search in memory, and function values that stand for what follows a try. -/
import Derived.Test.YthnpbopnpdlmnaaD23
import Derived.Test.YthnpbopnpdlmnaaD03
import Derived.Test.YthnpbopnpdlmnaaD02
import Derived.RegionTactic
import Derived.BigRegion
import Derived.Deep.QuietTactic
import Derived.BigQuiet
namespace Go.Proofs.Ythnpbopnpdlmnaa
open Go.RowKit

def Out.isFound : Out → Bool
  | .found _ => true
  | _ => false
def Out.isOver : Out → Bool
  | .over => true
  | _ => false


def NumsAt (S : List Nat) (w : World) (v : Value) (l : List Nat) : Prop :=
  ∃ (a : Option Addr) (c : Nat), v = .slice a l.length c ∧ (l = [] ∨ ∃ b cs, a = some ⟨b, 0, none⟩ ∧ b ∉ S ∧ Row w b cs 3 ∧ ∀ (k : Nat) x, l[k]? = some x → cs[k]? = some (.int .i64 (x : Int)))
theorem NumsAt.but {S : List Nat} {w w' : World} {v : Value} {l : List Nat} (h : NumsAt S w v l) (hf : But S w w') : NumsAt S w' v l := by
  obtain ⟨a, c, e, h1 | ⟨b, cs, h1, h2, h4, h5⟩⟩ := h
  · exact ⟨a, c, e, .inl h1⟩
  · exact ⟨a, c, e, .inr ⟨b, cs, h1, h2, h4.but hf h2, h5⟩⟩

structure Ctx where
  w0 : World
  M : Nat
  MB : Nat
  G : Nat
  N : Nat
  B : Nat
  s : ByteArray
  lines : Bool
namespace Ctx
variable (C : Ctx)
def str : List UInt8 := C.s.data.toList
def S : List Nat := [C.M, C.G]
def cells (st : Int) (ov : Bool) : List Value :=
  [.string C.s, .bool C.lines, .int .i64 st, .int .i64 C.B, .bool ov, .func (.func 75) #[] #[], .func (.func 76) #[] #[.pointer (some ⟨C.MB, 0, none⟩)], .func (.func 79) #[] #[.pointer (some ⟨C.MB, 0, none⟩)],
    .func (.func 81) #[.pointer (some ⟨C.M, 0, none⟩)] #[], .func (.func 82) #[] #[.pointer (some ⟨C.MB, 0, none⟩)], .func (.func 85) #[.pointer (some ⟨C.M, 0, none⟩)] #[],
    .func (.func 77) #[] #[.pointer (some ⟨C.MB, 0, none⟩)], .func (.func 78) #[] #[.pointer (some ⟨C.MB, 0, none⟩)], .func (.func 86) #[.pointer (some ⟨C.M, 0, none⟩)] #[]]
structure St (n : Nat) (ov : Bool) (w : World) : Prop where
  below : Below C.w0.heap.size C.w0 w
  m : Row w C.M (C.cells ((C.B - n : Nat) : Int) ov) 115
  mb : Row w C.MB [.pointer (some ⟨C.M, 0, none⟩)] 109
  g : ∃ old, Row w C.G [old] 38
  oM : C.w0.heap.size ≤ C.M
  oG : C.w0.heap.size ≤ C.G
  nB : n ≤ C.B
  big : C.B ≤ 20000
  len : C.s.size ≤ 1000000
  few : C.N ≤ 9
end Ctx
variable {C : Ctx}
theorem Ctx.St.later {n : Nat} {ov : Bool} {w w' : World} (h : C.St n ov w) (hb : Below w.heap.size w w') : C.St n ov w' :=
  ⟨h.below.trans (hb.mono h.below.size), h.m.below hb h.m.lt, h.mb.below hb h.mb.lt, h.g.elim fun old hg => ⟨old, hg.below hb hg.lt⟩, h.oM, h.oG, h.nB, h.big, h.len, h.few⟩
theorem Ctx.St.mbS {n : Nat} {ov : Bool} {w : World} (h : C.St n ov w) : C.MB ∉ C.S := by
  intro hm
  obtain ⟨old, hg⟩ := h.g
  rcases List.mem_cons.1 hm with e | hm
  · have := h.mb; rw [e] at this; exact absurd (this.typed h.m) (by decide)
  · have e := List.mem_singleton.1 hm; have := h.mb; rw [e] at this; exact absurd (this.typed hg) (by decide)
theorem Ctx.St.ne {n : Nat} {ov : Bool} {w : World} (h : C.St n ov w) : C.M ≠ C.G := by
  intro e
  obtain ⟨old, hg⟩ := h.g
  rw [← e] at hg; exact absurd (h.m.typed hg) (by decide)
theorem Ctx.St.nS {n : Nat} {ov : Bool} {w : World} (h : C.St n ov w) {b : Nat} {cs : List Value} {T : TypeId} (hr : Row w b cs T) (h1 : T ≠ 115) (h2 : T ≠ 38) : b ∉ C.S := by
  intro hm
  obtain ⟨old, hg⟩ := h.g
  rcases List.mem_cons.1 hm with e | hm
  · subst e; exact h1 (hr.typed h.m)
  · have e := List.mem_singleton.1 hm; subst e; exact h2 (hr.typed hg)
theorem Ctx.St.new {n : Nat} {ov : Bool} {w : World} (h : C.St n ov w) {b : Nat} (hb : w.heap.size ≤ b) : b ∉ C.S := by
  intro hm
  obtain ⟨old, hg⟩ := h.g
  have := h.m.lt
  have := hg.lt
  rcases List.mem_cons.1 hm with e | hm
  · omega
  · have e := List.mem_singleton.1 hm; omega

abbrev Pay.task (p : Pay) (sl : Value) (i k sv nv : Value) : List Value :=
  [.int .i64 p.op, .int .u64 p.set.a, .int .u64 p.set.b, .int .u64 p.set.c, .int .u64 p.set.d, .int .i64 p.lo, .int .i64 p.hi, .int .i64 p.gr, sl, i, k, sv, nv]
theorem Row.c13 {w : World} {B : Nat} {a b c d e f g i j k l m n : Value} {T : TypeId} (h : Row w B [a, b, c, d, e, f, g, i, j, k, l, m, n] T) :
    w.cell? ⟨B, 0, none⟩ = some a ∧ w.cell? ⟨B, 1, none⟩ = some b ∧ w.cell? ⟨B, 2, none⟩ = some c ∧ w.cell? ⟨B, 3, none⟩ = some d ∧ w.cell? ⟨B, 4, none⟩ = some e ∧ w.cell? ⟨B, 5, none⟩ = some f ∧
      w.cell? ⟨B, 6, none⟩ = some g ∧ w.cell? ⟨B, 7, none⟩ = some i ∧ w.cell? ⟨B, 8, none⟩ = some j ∧ w.cell? ⟨B, 9, none⟩ = some k ∧ w.cell? ⟨B, 10, none⟩ = some l ∧ w.cell? ⟨B, 11, none⟩ = some m ∧ w.cell? ⟨B, 12, none⟩ = some n :=
  ⟨h.cell 0, h.cell 1, h.cell 2, h.cell 3, h.cell 4, h.cell 5, h.cell 6, h.cell 7, h.cell 8, h.cell 9, h.cell 10, h.cell 11, h.cell 12⟩
theorem Ctx.St.c {n : Nat} {ov : Bool} {w : World} (h : C.St n ov w) : w.cell? ⟨C.M, 0, none⟩ = some (.string C.s) ∧ w.cell? ⟨C.M, 1, none⟩ = some (.bool C.lines) ∧ w.cell? ⟨C.M, 2, none⟩ = some (.int .i64 ((C.B - n : Nat) : Int)) ∧ w.cell? ⟨C.M, 3, none⟩ = some (.int .i64 C.B) ∧ w.cell? ⟨C.M, 4, none⟩ = some (.bool ov) ∧ w.cell? ⟨C.MB, 0, none⟩ = some (.pointer (some ⟨C.M, 0, none⟩)) :=
  ⟨h.m.cell 0, h.m.cell 1, h.m.cell 2, h.m.cell 3, h.m.cell 4, h.mb.cell 0⟩

def Kont.ok (N L D : Nat) : Kont → Prop
  | .done => True
  | .mark g i k K => 1 ≤ g ∧ g ≤ N ∧ i ≤ k ∧ k ≤ L ∧ K.ok N L D
  | .cat xs j k K => xs ≠ [] ∧ Re.oks N xs ∧ j ≤ k ∧ k ≤ L ∧ K.ok N L D
  | .rep p x c j k K => p.op = 5 ∧ (Re.mk p [x]).ok N ∧ c ≤ D ∧ j ≤ k ∧ k ≤ L ∧ K.ok N L D
theorem Kont.ok.mono {N L D D' : Nat} (hd : D ≤ D') : ∀ {K : Kont}, K.ok N L D → K.ok N L D'
  | .done, _ => trivial
  | .mark _ _ _ _, h => ⟨h.1, h.2.1, h.2.2.1, h.2.2.2.1, Kont.ok.mono hd h.2.2.2.2⟩
  | .cat _ _ _ _, h => ⟨h.1, h.2.1, h.2.2.1, h.2.2.2.1, Kont.ok.mono hd h.2.2.2.2⟩
  | .rep _ _ _ _ _ _, h => ⟨h.1, h.2.1, Nat.le_trans h.2.2.1 hd, h.2.2.2.1, h.2.2.2.2.1, Kont.ok.mono hd h.2.2.2.2.2⟩

inductive KAt (C : Ctx) (w : World) : Value → Kont → Prop where
  | done : KAt C w (.func (.func 88) #[] #[.pointer (some ⟨C.G, 0, none⟩)]) .done
  | mark {b : Nat} {p : Pay} {sl : Value} {i k : Nat} {sa : Option Addr} {sn sc : Nat} {fid : Nat} {cap : Array Value} {K : Kont} (hr : Row w b (p.task sl (.int .i64 i) (.int .i64 k) (.slice sa sn sc) (.func (.func fid) #[] cap)) 138) (hg : 0 ≤ p.gr) (hk : KAt C w (.func (.func fid) #[] cap) K) :
      KAt C w (.func (.func 103) #[] #[.pointer (some ⟨b, 0, none⟩)]) (.mark p.gr.toNat i k K)
  | cat {mb ab tb jb : Nat} {a : Option Addr} {q : Nat} {x : Re} {xs : List Re} {p : Pay} {sa ta : Option Addr} {i sn sc tn tc : Nat} {j k : Nat} {fid : Nat} {cap : Array Value} {K : Kont} (hm : Row w mb [.pointer (some ⟨C.M, 0, none⟩)] 109)
      (ha : Row w ab [.slice a (xs.length + 1) q] 26) (hx : Re.AllIn C.w0 (x :: xs) a 0) (hq : xs.length + 1 ≤ q ∧ q ≤ maxLen) (ht : Row w tb (p.task (.slice ta tn tc) (.int .i64 i) (.int .i64 k) (.slice sa sn sc) (.func (.func fid) #[] cap)) 138) (hj : Row w jb [.int .i64 j] 3) (hk : KAt C w (.func (.func fid) #[] cap) K) :
      KAt C w (.func (.func 100) #[] #[.pointer (some ⟨mb, 0, none⟩), .pointer (some ⟨ab, 0, none⟩), .pointer (some ⟨tb, 0, none⟩), .pointer (some ⟨jb, 0, none⟩)]) (.cat xs j k K)
  | rep {mb tb gb cb jb : Nat} {p : Pay} {x : Re} {ta : Option Addr} {tc : Nat} {sa : Option Addr} {i sn sc : Nat} {ga : Option Addr} {gc : Nat} {c j k : Nat} {fid : Nat} {cap : Array Value} {K : Kont} (hm : Row w mb [.pointer (some ⟨C.M, 0, none⟩)] 109)
      (he : (Re.mk p [x]).In C.w0 (p.cells (.slice ta 1 tc))) (ht : Row w tb (p.task (.slice ta 1 tc) (.int .i64 i) (.int .i64 k) (.slice sa sn sc) (.func (.func fid) #[] cap)) 138) (hg : Row w gb [.slice ga (withinOf x).length gc] 69) (hn : NumsAt C.S w (.slice ga (withinOf x).length gc) (withinOf x)) (hc : Row w cb [.int .i64 c] 3) (hj : Row w jb [.int .i64 j] 3) (hk : KAt C w (.func (.func fid) #[] cap) K) :
      KAt C w (.func (.func 101) #[] #[.pointer (some ⟨mb, 0, none⟩), .pointer (some ⟨tb, 0, none⟩), .pointer (some ⟨gb, 0, none⟩), .pointer (some ⟨cb, 0, none⟩), .pointer (some ⟨jb, 0, none⟩)]) (.rep p x (c + 1) j k K)
theorem KAt.form {w : World} {v : Value} {K : Kont} (h : KAt C w v K) : ∃ (fid : Nat) (cap : Array Value), v = .func (.func fid) #[] cap := by
  cases h <;> exact ⟨_, _, rfl⟩
set_option maxRecDepth 100000 in
theorem KAt.but {n : Nat} {ov : Bool} {w w' : World} {v : Value} {K : Kont} (h : KAt C w v K) (hS : C.St n ov w) (hb : But C.S w w') : KAt C w' v K := by
  induction h with
  | done => exact .done
  | mark h2 h4 _ ih => exact .mark (h2.but hb (hS.nS h2 (by decide) (by decide))) h4 ih
  | cat hm ha hx hq ht hj _ ih => exact .cat (hm.but hb (hS.nS hm (by decide) (by decide))) (ha.but hb (hS.nS ha (by decide) (by decide))) hx hq (ht.but hb (hS.nS ht (by decide) (by decide))) (hj.but hb (hS.nS hj (by decide) (by decide))) ih
  | rep hm he ht hg hn hc hj _ ih => exact .rep (hm.but hb (hS.nS hm (by decide) (by decide))) he (ht.but hb (hS.nS ht (by decide) (by decide))) (hg.but hb (hS.nS hg (by decide) (by decide))) (hn.but hb) (hc.but hb (hS.nS hc (by decide) (by decide))) (hj.but hb (hS.nS hj (by decide) (by decide))) ih
set_option maxRecDepth 100000 in
theorem KAt.later {n : Nat} {ov : Bool} {w w' : World} {v : Value} {K : Kont} (h : KAt C w v K) (hS : C.St n ov w) (hb : Below w.heap.size w w') : KAt C w' v K := h.but hS (But.of_below hb)

set_option maxRecDepth 100000 in
theorem KAt.enter {w : World} {fid : Nat} {cap : Array Value} {K : Kont} (h : KAt C w (.func (.func fid) #[] cap) K) : ∀ (args : Array Value) (x : World), Sem.run Try.prog (callFunc fid args) x = .ok (.enter fid args) x := by
  cases h <;> intro args x <;> rfl
def Good (C : Ctx) (E : Out → Nat → Prop) (w : World) (e : Ending) (w' : World) : Prop :=
  ∃ (o : Out) (m : Nat), E o m ∧ e = .returned (.bool o.isFound) ∧ C.St m o.isOver w' ∧ But C.S w w' ∧ ∀ l, o = .found l → SpOk C.N C.s.size l ∧ ∃ v, Row w' C.G [v] 38 ∧ SpAt C.S w' v l
theorem Good.mono {E E' : Out → Nat → Prop} {w : World} {e : Ending} {w' : World} (h : Good C E w e w') (hE : ∀ o m, E o m → E' o m) : Good C E' w e w' := by
  obtain ⟨o, m, h1, h2⟩ := h
  exact ⟨o, m, hE o m h1, h2⟩
structure Pre (C : Ctx) (n D : Nat) (sp : Spans) (K : Kont) (sv nv : Value) (w : World) : Prop where
  st : C.St n false w
  span : SpAt C.S w sv sp
  ok : SpOk C.N C.s.size sp
  k : KAt C w nv K
  kok : K.ok C.N C.s.size D
theorem Pre.later {n D : Nat} {sp : Spans} {K : Kont} {sv nv : Value} {w w' : World} (h : Pre C n D sp K sv nv w) (hb : Below w.heap.size w w') : Pre C n D sp K sv nv w' :=
  ⟨h.st.later hb, h.span.but (But.of_below hb), h.ok, h.k.later h.st hb, h.kok⟩
def TryC (C : Ctx) (n : Nat) : Prop := ∀ (w : World) (e : Re) (cs : List Value) (i k : Nat) (sp : Spans) (K : Kont) (sv nv : Value), e.In C.w0 cs → e.ok C.N → i ≤ k → k ≤ C.s.size → Pre C n (C.B - n + 1) sp K sv nv w →
  Calls Try.prog 89 #[.pointer (some ⟨C.M, 0, none⟩), .agg (cs ++ [.int .i64 i, .int .i64 k, sv, nv]).toArray] w (Good C (Ev C.str C.lines (.try e i k) sp K n) w)
def NextC (C : Ctx) (n : Nat) (K : Kont) : Prop := ∀ (w : World) (sp : Spans) (sv : Value) (fid : Nat) (cap : Array Value), Pre C n (C.B - n) sp K sv (.func (.func fid) #[] cap) w →
  Calls Try.prog fid (#[sv] ++ cap) w (Good C (Ev C.str C.lines .next sp K n) w)
end Go.Proofs.Ythnpbopnpdlmnaa

/- Reback: the end of a search keeps the spans. -/
namespace Go.Proofs.Ythnpbopnpdlmnaa
open Go.RowKit
attribute [local go_sem] gives givesUpon

set_option maxHeartbeats 1000000 in
theorem endB_any (w : World) (G : Nat) (old : Value) (a : Option Addr) (n c : Nat) (h : Row w G [old] 38) :
    Calls Try.prog 88 #[.slice a n c, .pointer (some ⟨G, 0, none⟩)] w fun e w' => e = .returned (.bool true) ∧ Row w' G [.slice a n c] 38 ∧ But [G] w w' ∧ w'.heap.size = w.heap.size := by
  have q := h.cell 0
  have qf := h.free 0
  have HR := hid h
  clear h
  go_enter Try.func88, Try.ntmps88
  go_wp2_with fail
  all_goals (try go_ret)
  all_goals exact ⟨rfl, HR.out.set 0 _, (But.refl _ w).setCell (.inl (by simp)) _, by simp [World.setCell]⟩
variable {C : Ctx}
theorem next_done (n : Nat) : NextC C n .done := by
  intro w sp sv fid cap h
  obtain ⟨h1, h2, h3, h4, h5⟩ := h
  obtain ⟨old, hg⟩ := h1.g
  obtain ⟨a, c, rfl⟩ := h2.form
  cases h4
  refine (endB_any w C.G old a sp.length c hg).mono ?_
  rintro e w' ⟨rfl, hr, hb, hs⟩
  have hb' : But C.S w w' := hb.mono (fun k hk => .inl (by rw [List.mem_singleton.1 hk]; simp [Ctx.S]))
  refine ⟨.found sp, n, .nextDone, rfl, ?_, hb', fun l hl => ?_⟩
  · refine ⟨?_, h1.m.but hb (by simpa using h1.ne), h1.mb.but hb (fun hm => h1.mbS (by simp [Ctx.S] at hm ⊢; exact .inr hm)), ⟨_, hr⟩, h1.oM, h1.oG, h1.nB, h1.big, h1.len, h1.few⟩
    exact h1.below.trans (hb.below h1.below.size (fun k hk => by rw [List.mem_singleton.1 hk]; exact h1.oG))
  · injection hl with hl
    subst hl
    exact ⟨h3, _, hr, h2.but hb'⟩
end Go.Proofs.Ythnpbopnpdlmnaa

/- Reback: the trees without parts. -/
namespace Go.Proofs.Ythnpbopnpdlmnaa
open Go.RowKit
attribute [local go_sem] gives givesUpon
variable {C : Ctx}

theorem not_part {p : Pay} {a : Int} (h : p.op = a) (h3 : a ≠ 3 := by decide) (h4 : a ≠ 4 := by decide) (h5 : a ≠ 5 := by decide) (h6 : a ≠ 6 := by decide) : ¬ partOp p := by
  unfold partOp; omega
theorem Good.leafNo {p : Pay} {xs : List Re} {i k n D : Nat} {sp : Spans} {K : Kont} {sv nv : Value} {w w' : World} (h : Pre C n D sp K sv nv w) (hb : Below w.heap.size w w') (hp : ¬ partOp p) (hn : plainOf C.str C.lines p i k sp = false) :
    Good C (Ev C.str C.lines (.try (.mk p xs) i k) sp K (n + 1)) w (.returned (.bool false)) w' :=
  ⟨.fail, n, .leafFail hp hn, rfl, h.st.later hb, But.of_below hb, fun l hl => by cases hl⟩
theorem Good.leafYes {p : Pay} {xs : List Re} {i k n : Nat} {sp : Spans} {K : Kont} {w : World} {e : Ending} {w' : World} (h : Good C (Ev C.str C.lines .next sp K n) w e w') (hp : ¬ partOp p) (hn : plainOf C.str C.lines p i k sp = true) :
    Good C (Ev C.str C.lines (.try (.mk p xs) i k) sp K (n + 1)) w e w' := h.mono fun _ _ he => .leaf hp hn he

theorem Row.two {w : World} {B : Nat} {a b : Value} {T : TypeId} (h : Row w B [a, b] T) : w.cell? ⟨B, 0, none⟩ = some a ∧ w.cell? ⟨B, 1, none⟩ = some b := ⟨h.cell 0, h.cell 1⟩
theorem leafHC {n D : Nat} {sp : Spans} {K : Kont} {sv nv : Value} {w x : World} {cs : List Value} (h : Pre C n D sp K sv nv w) (hx : Grow (w.alloc (.cells cs.toArray 138)).drew x) : Row x w.heap.size cs 138 ∧ C.St n false x :=
  have hb : Below _ (w.alloc (.cells cs.toArray 138)) x := ⟨hx.os, hx.tape, hx.output, hx.size, hx.block⟩
  ⟨(Row.new rfl).below hb (by simp), ((h.later ((Below.refl w.heap.size w).alloc (Nat.le_refl _) _)).later hb).st⟩

set_option maxHeartbeats 2000000 in
theorem empty_any (n : Nat) (K : Kont) (HN : NextC C n K) (w : World) (p : Pay) (xs : List Re) (ta : Option Addr) (tn tc i k : Nat) (sp : Spans) (sa : Option Addr) (sn sc fid : Nat) (cap : Array Value) (h : Pre C n (C.B - n) sp K (.slice sa sn sc) (.func (.func fid) #[] cap) w) (ho : p.op = 1) (hi : i ≤ 1000000) (_hk : k ≤ 1000000) :
    Calls Try.prog 75 #[.agg #[.int .i64 p.op, .int .u64 p.set.a, .int .u64 p.set.b, .int .u64 p.set.c, .int .u64 p.set.d, .int .i64 p.lo, .int .i64 p.hi, .int .i64 p.gr, .slice ta tn tc, .int .i64 i, .int .i64 k, .slice sa sn sc, .func (.func fid) #[] cap]] w (Good C (Ev C.str C.lines (.try (.mk p xs) i k) sp K (n + 1)) w) := by
  have HP := hid h
  have HR := hid (Row.new (w := w) (B := w.heap.size) (cs := [.int .i64 p.op, .int .u64 p.set.a, .int .u64 p.set.b, .int .u64 p.set.c, .int .u64 p.set.d, .int .i64 p.lo, .int .i64 p.hi, .int .i64 p.gr, .slice ta tn tc, .int .i64 i, .int .i64 k, .slice sa sn sc, .func (.func fid) #[] cap]) (T := 138) rfl)
  have HB := hid ((Below.refl w.heap.size w).alloc (Nat.le_refl _) (.cells #[.int .i64 p.op, .int .u64 p.set.a, .int .u64 p.set.b, .int .u64 p.set.c, .int .u64 p.set.d, .int .i64 p.lo, .int .i64 p.hi, .int .i64 p.gr, .slice ta tn tc, .int .i64 i, .int .i64 k, .slice sa sn sc, .func (.func fid) #[] cap] 138))
  have HNN := hid HN
  have q := HR.out.c13
  have HO := hid ho
  clear h HN ho
  by_cases hki : k = i
  · subst hki
    have HPL : Hid (plainOf C.str C.lines p k k sp = true) := by show _ = _; unfold plainOf; simp [HO.out]
    have hent := HP.out.k.enter
    go_enter Try.func75, Try.ntmps75
    go_wp2_with fail
    refine (HNN.out _ _ _ _ _ (HP.out.later HB.out)).mono ?_
    rintro e w' ⟨o, m, h1, rfl, h3, h4, h5⟩
    have HG : Hid (Good C (Ev C.str C.lines .next sp K n) w (.returned (.bool o.isFound)) w') := ⟨o, m, h1, rfl, h3, (But.of_below HB.out).trans h4, h5⟩
    clear h1 h3 h4 h5
    generalize o.isFound = fo at *
    go_wp2_with fail
    go_ret
    exact HG.out.leafYes (not_part HO.out) HPL.out
  · have d2 : ((k : Int) == (i : Int)) = false := by simp; omega
    have HPL : Hid (plainOf C.str C.lines p i k sp = false) := by show _ = _; unfold plainOf; simp [HO.out, hki]
    have hent := HP.out.k.enter
    go_enter Try.func75, Try.ntmps75
    go_wp2_with fail
    go_ret
    exact Good.leafNo HP.out HB.out (not_part HO.out) HPL.out

-- LEAVES
end Go.Proofs.Ythnpbopnpdlmnaa
