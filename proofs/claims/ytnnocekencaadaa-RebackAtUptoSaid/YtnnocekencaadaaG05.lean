/- Reback: the state of a search in memory, and function values that stand for what follows a try. -/
import Derived.Test.YtnnocekencaadaaG04
import Derived.Test.YtnnocekencaadaaG03
import Derived.Test.YtnnocekencaadaaProg
import Derived.Test.YtnnocekencaadaaG01
namespace Go.Proofs.Ytnnocekencaadaa
open Go.RowKit

theorem Row.typed {w : World} {B : Nat} {cs ds : List Value} {T U : TypeId} (h : Row w B cs T) (k : Row w B ds U) : T = U := by
  have e := Option.some.inj (h.symm.trans k)
  injection e
def Out.isFound : Out → Bool
  | .found _ => true
  | _ => false
def Out.isOver : Out → Bool
  | .over => true
  | _ => false

/-- The cells of spans. -/
def spc : Spans → List Value
  | [] => []
  | x :: l => .int .i64 x.1 :: .int .i64 x.2 :: spc l
theorem spc_length : ∀ l : Spans, (spc l).length = l.length * 2
  | [] => rfl
  | x :: l => by simp [spc, spc_length l]; omega
theorem spc_get : ∀ (l : Spans) (k : Nat) (x : Int × Int), l[k]? = some x → (spc l)[2 * k]? = some (.int .i64 x.1) ∧ (spc l)[2 * k + 1]? = some (.int .i64 x.2)
  | y :: l, 0, x, h => by simp at h; subst h; exact ⟨rfl, rfl⟩
  | y :: l, k + 1, x, h => by
    have := spc_get l k x (by simpa using h)
    simpa [spc, show 2 * (k + 1) = 2 * k + 2 by omega] using this
theorem spc_append : ∀ l m : Spans, spc (l ++ m) = spc l ++ spc m
  | [], m => rfl
  | x :: l, m => by simp [spc, spc_append l m]
theorem spc_set : ∀ (l : Spans) (k : Nat) (x : Int × Int), spc (l.set k x) = ((spc l).set (2 * k) (.int .i64 x.1)).set (2 * k + 1) (.int .i64 x.2)
  | [], k, x => rfl
  | y :: l, 0, x => rfl
  | y :: l, k + 1, x => by simp [spc, spc_set l k x, show 2 * (k + 1) = 2 * k + 2 by omega, show 2 * k + 2 + 1 = (2 * k + 1) + 2 by omega]

/-- The spans lie at a slice's place, in a block of which p holds. -/
def SpB (p : Nat → Prop) (w : World) (v : Value) (sp : Spans) : Prop :=
  (sp = [] ∧ v = .slice none 0 0) ∨ (sp ≠ [] ∧ ∃ (b c : Nat) (more : List Value), v = .slice (some ⟨b, 0, none⟩) sp.length c ∧ p b ∧ Row w b (spc sp ++ more) 44)
abbrev SpAt (S : List Nat) := SpB (· ∉ S)
theorem SpB.but {p : Nat → Prop} {S : List Nat} {w w' : World} {v : Value} {sp : Spans} (h : SpB p w v sp) (hf : But S w w') (hp : ∀ b, p b → b ∉ S) : SpB p w' v sp := by
  rcases h with h | ⟨h0, b, c, m, h1, h2, h3⟩
  · exact .inl h
  · exact .inr ⟨h0, b, c, m, h1, h2, h3.but hf (hp b h2)⟩
theorem SpAt.but {S : List Nat} {w w' : World} {v : Value} {sp : Spans} (h : SpAt S w v sp) (hf : But S w w') : SpAt S w' v sp := SpB.but h hf fun _ h => h
theorem SpB.below {p : Nat → Prop} {w w' : World} {v : Value} {sp : Spans} (h : SpB p w v sp) (hf : Below w.heap.size w w') : SpB p w' v sp := by
  rcases h with h | ⟨h0, b, c, m, h1, h2, h3⟩
  · exact .inl h
  · exact .inr ⟨h0, b, c, m, h1, h2, h3.below hf h3.lt⟩
theorem SpB.mono {p q : Nat → Prop} {w : World} {v : Value} {sp : Spans} (h : SpB p w v sp) (hp : ∀ b, b < w.heap.size → p b → q b) : SpB q w v sp := by
  rcases h with h | ⟨h0, b, c, m, h1, h2, h3⟩
  · exact .inl h
  · exact .inr ⟨h0, b, c, m, h1, hp b h3.lt h2, h3⟩
theorem SpB.form {p : Nat → Prop} {w : World} {v : Value} {sp : Spans} (h : SpB p w v sp) : ∃ a c, v = .slice a sp.length c := by
  rcases h with ⟨rfl, rfl⟩ | ⟨h0, b, c, m, rfl, h2, h3⟩
  · exact ⟨_, _, rfl⟩
  · exact ⟨_, _, rfl⟩
/-- Numbers at a slice's place, in a block outside S. -/
def NumsAt (S : List Nat) (w : World) (v : Value) (l : List Nat) : Prop :=
  ∃ (a : Option Addr) (c : Nat), v = .slice a l.length c ∧ (l = [] ∨ ∃ b cs, a = some ⟨b, 0, none⟩ ∧ b ∉ S ∧ Row w b cs 3 ∧ ∀ (k : Nat) x, l[k]? = some x → cs[k]? = some (.int .i64 (x : Int)))
theorem NumsAt.but {S : List Nat} {w w' : World} {v : Value} {l : List Nat} (h : NumsAt S w v l) (hf : But S w w') : NumsAt S w' v l := by
  obtain ⟨a, c, e, h1 | ⟨b, cs, h1, h2, h4, h5⟩⟩ := h
  · exact ⟨a, c, e, .inl h1⟩
  · exact ⟨a, c, e, .inr ⟨b, cs, h1, h2, h4.but hf h2, h5⟩⟩

/-- What stays in a search: the world that holds the trees, the blocks of the search, of the variable that holds its address and of the spans found, the number of groups, the budget, the string and the flag. -/
structure Ctx where
  w0 : World
  M : Nat
  MB : Nat
  G : Nat
  N : Nat
  B : Nat
  s : ByteArray
  lines : Bool
namespace Ctx
variable (C : Ctx)
def str : List UInt8 := C.s.data.toList
def S : List Nat := [C.M, C.G]
def cells (st : Int) (ov : Bool) : List Value :=
  [.string C.s, .bool C.lines, .int .i64 st, .int .i64 C.B, .bool ov, .func (.func 31) #[] #[], .func (.func 32) #[] #[.pointer (some ⟨C.MB, 0, none⟩)], .func (.func 36) #[] #[.pointer (some ⟨C.MB, 0, none⟩)],
    .func (.func 38) #[.pointer (some ⟨C.M, 0, none⟩)] #[], .func (.func 39) #[] #[.pointer (some ⟨C.MB, 0, none⟩)], .func (.func 42) #[.pointer (some ⟨C.M, 0, none⟩)] #[],
    .func (.func 34) #[] #[.pointer (some ⟨C.MB, 0, none⟩)], .func (.func 35) #[] #[.pointer (some ⟨C.MB, 0, none⟩)], .func (.func 43) #[.pointer (some ⟨C.M, 0, none⟩)] #[]]
/-- The search, with n tries left. -/
structure St (n : Nat) (ov : Bool) (w : World) : Prop where
  below : Below C.w0.heap.size C.w0 w
  m : Row w C.M (C.cells ((C.B - n : Nat) : Int) ov) 59
  mb : Row w C.MB [.pointer (some ⟨C.M, 0, none⟩)] 52
  g : ∃ old, Row w C.G [old] 33
  oM : C.w0.heap.size ≤ C.M
  oG : C.w0.heap.size ≤ C.G
  nB : n ≤ C.B
  big : C.B ≤ 20000
  len : C.s.size ≤ 1000000
  few : C.N ≤ 9
end Ctx
variable {C : Ctx}
theorem Ctx.St.later {n : Nat} {ov : Bool} {w w' : World} (h : C.St n ov w) (hb : Below w.heap.size w w') : C.St n ov w' :=
  ⟨h.below.trans (hb.mono h.below.size), h.m.below hb h.m.lt, h.mb.below hb h.mb.lt, h.g.elim fun old hg => ⟨old, hg.below hb hg.lt⟩, h.oM, h.oG, h.nB, h.big, h.len, h.few⟩
theorem Ctx.St.mbS {n : Nat} {ov : Bool} {w : World} (h : C.St n ov w) : C.MB ∉ C.S := by
  intro hm
  obtain ⟨old, hg⟩ := h.g
  rcases List.mem_cons.1 hm with e | hm
  · have := h.mb; rw [e] at this; exact absurd (this.typed h.m) (by decide)
  · have e := List.mem_singleton.1 hm; have := h.mb; rw [e] at this; exact absurd (this.typed hg) (by decide)
theorem Ctx.St.ne {n : Nat} {ov : Bool} {w : World} (h : C.St n ov w) : C.M ≠ C.G := by
  intro e
  obtain ⟨old, hg⟩ := h.g
  rw [← e] at hg; exact absurd (h.m.typed hg) (by decide)
/-- A block of another type is neither the search nor the spans found. -/
theorem Ctx.St.nS {n : Nat} {ov : Bool} {w : World} (h : C.St n ov w) {b : Nat} {cs : List Value} {T : TypeId} (hr : Row w b cs T) (h1 : T ≠ 59) (h2 : T ≠ 33) : b ∉ C.S := by
  intro hm
  obtain ⟨old, hg⟩ := h.g
  rcases List.mem_cons.1 hm with e | hm
  · subst e; exact h1 (hr.typed h.m)
  · have e := List.mem_singleton.1 hm; subst e; exact h2 (hr.typed hg)
theorem Ctx.St.new {n : Nat} {ov : Bool} {w : World} (h : C.St n ov w) {b : Nat} (hb : w.heap.size ≤ b) : b ∉ C.S := by
  intro hm
  obtain ⟨old, hg⟩ := h.g
  have := h.m.lt
  have := hg.lt
  rcases List.mem_cons.1 hm with e | hm
  · omega
  · have e := List.mem_singleton.1 hm; omega

/-- The thirteen cells of a task. -/
abbrev Pay.task (p : Pay) (sl : Value) (i k sv nv : Value) : List Value :=
  [.int .i64 p.op, .int .u64 p.set.a, .int .u64 p.set.b, .int .u64 p.set.c, .int .u64 p.set.d, .int .i64 p.lo, .int .i64 p.hi, .int .i64 p.gr, sl, i, k, sv, nv]
theorem Row.c13 {w : World} {B : Nat} {a b c d e f g i j k l m n : Value} {T : TypeId} (h : Row w B [a, b, c, d, e, f, g, i, j, k, l, m, n] T) :
    w.cell? ⟨B, 0, none⟩ = some a ∧ w.cell? ⟨B, 1, none⟩ = some b ∧ w.cell? ⟨B, 2, none⟩ = some c ∧ w.cell? ⟨B, 3, none⟩ = some d ∧ w.cell? ⟨B, 4, none⟩ = some e ∧ w.cell? ⟨B, 5, none⟩ = some f ∧
      w.cell? ⟨B, 6, none⟩ = some g ∧ w.cell? ⟨B, 7, none⟩ = some i ∧ w.cell? ⟨B, 8, none⟩ = some j ∧ w.cell? ⟨B, 9, none⟩ = some k ∧ w.cell? ⟨B, 10, none⟩ = some l ∧ w.cell? ⟨B, 11, none⟩ = some m ∧ w.cell? ⟨B, 12, none⟩ = some n :=
  ⟨h.cell 0, h.cell 1, h.cell 2, h.cell 3, h.cell 4, h.cell 5, h.cell 6, h.cell 7, h.cell 8, h.cell 9, h.cell 10, h.cell 11, h.cell 12⟩
/-- The search's own cells that are read. -/
theorem Ctx.St.c {n : Nat} {ov : Bool} {w : World} (h : C.St n ov w) : w.cell? ⟨C.M, 0, none⟩ = some (.string C.s) ∧ w.cell? ⟨C.M, 1, none⟩ = some (.bool C.lines) ∧ w.cell? ⟨C.M, 2, none⟩ = some (.int .i64 ((C.B - n : Nat) : Int)) ∧ w.cell? ⟨C.M, 3, none⟩ = some (.int .i64 C.B) ∧ w.cell? ⟨C.M, 4, none⟩ = some (.bool ov) ∧ w.cell? ⟨C.MB, 0, none⟩ = some (.pointer (some ⟨C.M, 0, none⟩)) :=
  ⟨h.m.cell 0, h.m.cell 1, h.m.cell 2, h.m.cell 3, h.m.cell 4, h.mb.cell 0⟩

mutual
/-- A tree as Check lets it pass: N groups in all. -/
def Re.ok (N : Nat) : Re → Prop
  | .mk p xs => ((1 ≤ p.op ∧ p.op ≤ 9) ∧ Re.sizes xs ≤ 1000000) ∧ (p.op = 3 ∨ p.op = 4 → xs ≠ []) ∧ (p.op = 5 ∨ p.op = 6 → ∃ x, xs = [x]) ∧ (p.op = 6 ∨ p.op = 9 → 1 ≤ p.gr ∧ p.gr ≤ N) ∧ Re.oks N xs
def Re.oks (N : Nat) : List Re → Prop
  | [] => True
  | t :: ts => t.ok N ∧ Re.oks N ts
end
/-- Spans that may be looked at: N of them, each within the string, or unset. -/
def SpOk (N L : Nat) (sp : Spans) : Prop := sp.length = N ∧ ∀ x, x ∈ sp → x = (-1, -1) ∨ 0 ≤ x.1 ∧ x.1 ≤ x.2 ∧ x.2 ≤ L
def Kont.ok (N L D : Nat) : Kont → Prop
  | .done => True
  | .mark g i k K => 1 ≤ g ∧ g ≤ N ∧ i ≤ k ∧ k ≤ L ∧ K.ok N L D
  | .cat xs j k K => xs ≠ [] ∧ Re.oks N xs ∧ j ≤ k ∧ k ≤ L ∧ K.ok N L D
  | .rep p x c j k K => p.op = 5 ∧ (Re.mk p [x]).ok N ∧ c ≤ D ∧ j ≤ k ∧ k ≤ L ∧ K.ok N L D
theorem Kont.ok.mono {N L D D' : Nat} (hd : D ≤ D') : ∀ {K : Kont}, K.ok N L D → K.ok N L D'
  | .done, _ => trivial
  | .mark _ _ _ _, h => ⟨h.1, h.2.1, h.2.2.1, h.2.2.2.1, Kont.ok.mono hd h.2.2.2.2⟩
  | .cat _ _ _ _, h => ⟨h.1, h.2.1, h.2.2.1, h.2.2.2.1, Kont.ok.mono hd h.2.2.2.2⟩
  | .rep _ _ _ _ _ _, h => ⟨h.1, h.2.1, Nat.le_trans h.2.2.1 hd, h.2.2.2.1, h.2.2.2.2.1, Kont.ok.mono hd h.2.2.2.2.2⟩

/-- The function value is what follows. -/
inductive KAt (C : Ctx) (w : World) : Value → Kont → Prop where
  | done : KAt C w (.func (.func 45) #[] #[.pointer (some ⟨C.G, 0, none⟩)]) .done
  | mark {b : Nat} {p : Pay} {sl : Value} {i k : Nat} {sa : Option Addr} {sn sc : Nat} {fid : Nat} {cap : Array Value} {K : Kont} (hr : Row w b (p.task sl (.int .i64 i) (.int .i64 k) (.slice sa sn sc) (.func (.func fid) #[] cap)) 74) (hg : 0 ≤ p.gr) (hk : KAt C w (.func (.func fid) #[] cap) K) :
      KAt C w (.func (.func 60) #[] #[.pointer (some ⟨b, 0, none⟩)]) (.mark p.gr.toNat i k K)
  | cat {mb ab tb jb : Nat} {a : Option Addr} {q : Nat} {x : Re} {xs : List Re} {p : Pay} {sa ta : Option Addr} {i sn sc tn tc : Nat} {j k : Nat} {fid : Nat} {cap : Array Value} {K : Kont} (hm : Row w mb [.pointer (some ⟨C.M, 0, none⟩)] 52)
      (ha : Row w ab [.slice a (xs.length + 1) q] 26) (hx : Re.AllIn C.w0 (x :: xs) a 0) (hq : xs.length + 1 ≤ q ∧ q ≤ maxLen) (ht : Row w tb (p.task (.slice ta tn tc) (.int .i64 i) (.int .i64 k) (.slice sa sn sc) (.func (.func fid) #[] cap)) 74) (hj : Row w jb [.int .i64 j] 3) (hk : KAt C w (.func (.func fid) #[] cap) K) :
      KAt C w (.func (.func 57) #[] #[.pointer (some ⟨mb, 0, none⟩), .pointer (some ⟨ab, 0, none⟩), .pointer (some ⟨tb, 0, none⟩), .pointer (some ⟨jb, 0, none⟩)]) (.cat xs j k K)
  | rep {mb tb gb cb jb : Nat} {p : Pay} {x : Re} {ta : Option Addr} {tc : Nat} {sa : Option Addr} {i sn sc : Nat} {ga : Option Addr} {gc : Nat} {c j k : Nat} {fid : Nat} {cap : Array Value} {K : Kont} (hm : Row w mb [.pointer (some ⟨C.M, 0, none⟩)] 52)
      (he : (Re.mk p [x]).In C.w0 (p.cells (.slice ta 1 tc))) (ht : Row w tb (p.task (.slice ta 1 tc) (.int .i64 i) (.int .i64 k) (.slice sa sn sc) (.func (.func fid) #[] cap)) 74) (hg : Row w gb [.slice ga (withinOf x).length gc] 68) (hn : NumsAt C.S w (.slice ga (withinOf x).length gc) (withinOf x)) (hc : Row w cb [.int .i64 c] 3) (hj : Row w jb [.int .i64 j] 3) (hk : KAt C w (.func (.func fid) #[] cap) K) :
      KAt C w (.func (.func 58) #[] #[.pointer (some ⟨mb, 0, none⟩), .pointer (some ⟨tb, 0, none⟩), .pointer (some ⟨gb, 0, none⟩), .pointer (some ⟨cb, 0, none⟩), .pointer (some ⟨jb, 0, none⟩)]) (.rep p x (c + 1) j k K)
theorem KAt.form {w : World} {v : Value} {K : Kont} (h : KAt C w v K) : ∃ (fid : Nat) (cap : Array Value), v = .func (.func fid) #[] cap := by
  cases h <;> exact ⟨_, _, rfl⟩
theorem KAt.but {n : Nat} {ov : Bool} {w w' : World} {v : Value} {K : Kont} (h : KAt C w v K) (hS : C.St n ov w) (hb : But C.S w w') : KAt C w' v K := by
  induction h with
  | done => exact .done
  | mark h2 h4 _ ih => exact .mark (h2.but hb (hS.nS h2 (by decide) (by decide))) h4 ih
  | cat hm ha hx hq ht hj _ ih => exact .cat (hm.but hb (hS.nS hm (by decide) (by decide))) (ha.but hb (hS.nS ha (by decide) (by decide))) hx hq (ht.but hb (hS.nS ht (by decide) (by decide))) (hj.but hb (hS.nS hj (by decide) (by decide))) ih
  | rep hm he ht hg hn hc hj _ ih => exact .rep (hm.but hb (hS.nS hm (by decide) (by decide))) he (ht.but hb (hS.nS ht (by decide) (by decide))) (hg.but hb (hS.nS hg (by decide) (by decide))) (hn.but hb) (hc.but hb (hS.nS hc (by decide) (by decide))) (hj.but hb (hS.nS hj (by decide) (by decide))) ih
theorem KAt.later {n : Nat} {ov : Bool} {w w' : World} {v : Value} {K : Kont} (h : KAt C w v K) (hS : C.St n ov w) (hb : Below w.heap.size w w') : KAt C w' v K := h.but hS (But.of_below hb)

theorem KAt.enter {w : World} {fid : Nat} {cap : Array Value} {K : Kont} (h : KAt C w (.func (.func fid) #[] cap) K) : ∀ (args : Array Value) (x : World), Sem.run Try.prog (callFunc fid args) x = .ok (.enter fid args) x := by
  cases h <;> intro args x <;> rfl
/-- How a call may end that does a job: E says what the job comes to. -/
def Good (C : Ctx) (E : Out → Nat → Prop) (w : World) (e : Ending) (w' : World) : Prop :=
  ∃ (o : Out) (m : Nat), E o m ∧ e = .returned (.bool o.isFound) ∧ C.St m o.isOver w' ∧ But C.S w w' ∧ ∀ l, o = .found l → SpOk C.N C.s.size l ∧ ∃ v, Row w' C.G [v] 33 ∧ SpAt C.S w' v l
theorem Good.mono {E E' : Out → Nat → Prop} {w : World} {e : Ending} {w' : World} (h : Good C E w e w') (hE : ∀ o m, E o m → E' o m) : Good C E' w e w' := by
  obtain ⟨o, m, h1, h2⟩ := h
  exact ⟨o, m, hE o m h1, h2⟩
theorem Good.from {E : Out → Nat → Prop} {v w : World} {e : Ending} {w' : World} (h : Good C E w e w') (hb : But C.S v w) : Good C E v e w' := by
  obtain ⟨o, m, h1, h2, h3, h4, h5⟩ := h
  exact ⟨o, m, h1, h2, h3, hb.trans h4, h5⟩
/-- What a job asks of the world: the spans and what follows lie there. -/
structure Pre (C : Ctx) (n D : Nat) (sp : Spans) (K : Kont) (sv nv : Value) (w : World) : Prop where
  st : C.St n false w
  span : SpAt C.S w sv sp
  ok : SpOk C.N C.s.size sp
  k : KAt C w nv K
  kok : K.ok C.N C.s.size D
theorem Pre.later {n D : Nat} {sp : Spans} {K : Kont} {sv nv : Value} {w w' : World} (h : Pre C n D sp K sv nv w) (hb : Below w.heap.size w w') : Pre C n D sp K sv nv w' :=
  ⟨h.st.later hb, h.span.but (But.of_below hb), h.ok, h.k.later h.st hb, h.kok⟩
/-- The contract of try, with n tries left. -/
def TryC (C : Ctx) (n : Nat) : Prop := ∀ (w : World) (e : Re) (cs : List Value) (i k : Nat) (sp : Spans) (K : Kont) (sv nv : Value), e.In C.w0 cs → e.ok C.N → i ≤ k → k ≤ C.s.size → Pre C n (C.B - n + 1) sp K sv nv w →
  Calls Try.prog 46 #[.pointer (some ⟨C.M, 0, none⟩), .agg (cs ++ [.int .i64 i, .int .i64 k, sv, nv]).toArray] w (Good C (Ev C.str C.lines (.try e i k) sp K n) w)
/-- The contract of what follows. -/
def NextC (C : Ctx) (n : Nat) (K : Kont) : Prop := ∀ (w : World) (sp : Spans) (sv : Value) (fid : Nat) (cap : Array Value), Pre C n (C.B - n) sp K sv (.func (.func fid) #[] cap) w →
  Calls Try.prog fid (#[sv] ++ cap) w (Good C (Ev C.str C.lines .next sp K n) w)
end Go.Proofs.Ytnnocekencaadaa

/- Reback's reference: the state of a search in memory, and the tasks that stand for what follows. -/
namespace Go.Proofs.Ytnnocekencaadaa
open Go.RowKit

/-- What stays in a search of the reference. -/
structure RCtx where
  w0 : World
  X : Nat
  N : Nat
  B : Nat
  s : ByteArray
  lines : Bool
namespace RCtx
variable (C : RCtx)
def str : List UInt8 := C.s.data.toList
abbrev cells (st : Int) (ov : Bool) : List Value := [.string C.s, .bool C.lines, .int .i64 st, .int .i64 C.B, .bool ov]
structure St (n : Nat) (ov : Bool) (w : World) : Prop where
  below : Below C.w0.heap.size C.w0 w
  x : Row w C.X (C.cells ((C.B - n : Nat) : Int) ov) 64
  oX : C.w0.heap.size ≤ C.X
  nB : n ≤ C.B
  big : C.B ≤ 20000
  len : C.s.size ≤ 1000000
  few : C.N ≤ 9
end RCtx
variable {C : RCtx}
theorem RCtx.St.later {n : Nat} {ov : Bool} {w w' : World} (h : C.St n ov w) (hb : Below w.heap.size w w') : C.St n ov w' :=
  ⟨h.below.trans (hb.mono h.below.size), h.x.below hb h.x.lt, h.oX, h.nB, h.big, h.len, h.few⟩
theorem RCtx.St.nX {n : Nat} {ov : Bool} {w : World} (h : C.St n ov w) {b : Nat} {cs : List Value} {T : TypeId} (hr : Row w b cs T) (h1 : T ≠ 64) : b ∉ [C.X] := by
  intro hm
  have e := List.mem_singleton.1 hm
  subst e; exact h1 (hr.typed h.x)
theorem RCtx.St.new {n : Nat} {ov : Bool} {w : World} (h : C.St n ov w) {b : Nat} (hb : w.heap.size ≤ b) : b ∉ [C.X] := by
  intro hm
  have := h.x.lt
  have e := List.mem_singleton.1 hm
  omega
theorem RCtx.St.c {n : Nat} {ov : Bool} {w : World} (h : C.St n ov w) : w.cell? ⟨C.X, 0, none⟩ = some (.string C.s) ∧ w.cell? ⟨C.X, 1, none⟩ = some (.bool C.lines) ∧ w.cell? ⟨C.X, 2, none⟩ = some (.int .i64 ((C.B - n : Nat) : Int)) ∧ w.cell? ⟨C.X, 3, none⟩ = some (.int .i64 C.B) ∧ w.cell? ⟨C.X, 4, none⟩ = some (.bool ov) :=
  ⟨h.x.cell 0, h.x.cell 1, h.x.cell 2, h.x.cell 3, h.x.cell 4⟩

/-- The fifteen cells of a task. -/
abbrev Tk (kd : Int) (p : Pay) (sl iv kv cv av rv : Value) : List Value :=
  [.int .i64 kd, .int .i64 p.op, .int .u64 p.set.a, .int .u64 p.set.b, .int .u64 p.set.c, .int .u64 p.set.d, .int .i64 p.lo, .int .i64 p.hi, .int .i64 p.gr, sl, iv, kv, cv, av, rv]
theorem Row.c15 {w : World} {B : Nat} {a b c d e f g i j k l m n o p : Value} {T : TypeId} (h : Row w B [a, b, c, d, e, f, g, i, j, k, l, m, n, o, p] T) :
    w.cell? ⟨B, 0, none⟩ = some a ∧ w.cell? ⟨B, 1, none⟩ = some b ∧ w.cell? ⟨B, 2, none⟩ = some c ∧ w.cell? ⟨B, 3, none⟩ = some d ∧ w.cell? ⟨B, 4, none⟩ = some e ∧ w.cell? ⟨B, 5, none⟩ = some f ∧
      w.cell? ⟨B, 6, none⟩ = some g ∧ w.cell? ⟨B, 7, none⟩ = some i ∧ w.cell? ⟨B, 8, none⟩ = some j ∧ w.cell? ⟨B, 9, none⟩ = some k ∧ w.cell? ⟨B, 10, none⟩ = some l ∧ w.cell? ⟨B, 11, none⟩ = some m ∧ w.cell? ⟨B, 12, none⟩ = some n ∧ w.cell? ⟨B, 13, none⟩ = some o ∧ w.cell? ⟨B, 14, none⟩ = some p :=
  ⟨h.cell 0, h.cell 1, h.cell 2, h.cell 3, h.cell 4, h.cell 5, h.cell 6, h.cell 7, h.cell 8, h.cell 9, h.cell 10, h.cell 11, h.cell 12, h.cell 13, h.cell 14⟩
/-- The task's pointer is what follows. -/
inductive RAt (C : RCtx) (w : World) : Value → Kont → Prop where
  | done : RAt C w (.pointer none) .done
  | mark {b : Nat} {p : Pay} {sl cv av : Value} {i k : Nat} {q : Option Addr} {K : Kont} (hr : Row w b (Tk 4 p sl (.int .i64 i) (.int .i64 k) cv av (.pointer q)) 90) (hg : 0 ≤ p.gr) (hk : RAt C w (.pointer q) K) : RAt C w (.pointer (some ⟨b, 0, none⟩)) (.mark p.gr.toNat i k K)
  | cat {b : Nat} {p : Pay} {sl cv : Value} {a : Option Addr} {q : Nat} {xs : List Re} {j k : Nat} {r : Option Addr} {K : Kont} (hr : Row w b (Tk 2 p sl (.int .i64 j) (.int .i64 k) cv (.slice a xs.length q) (.pointer r)) 90) (hx : Re.AllIn C.w0 xs a 0) (hq : xs.length ≤ q ∧ q ≤ maxLen) (hk : RAt C w (.pointer r) K) : RAt C w (.pointer (some ⟨b, 0, none⟩)) (.cat xs j k K)
  | rep {b : Nat} {p : Pay} {x : Re} {ta : Option Addr} {tc c j k : Nat} {av : Value} {r : Option Addr} {K : Kont} (hr : Row w b (Tk 3 p (.slice ta 1 tc) (.int .i64 j) (.int .i64 k) (.int .i64 c) av (.pointer r)) 90) (he : (Re.mk p [x]).In C.w0 (p.cells (.slice ta 1 tc))) (hk : RAt C w (.pointer r) K) : RAt C w (.pointer (some ⟨b, 0, none⟩)) (.rep p x c j k K)
theorem RAt.form {w : World} {v : Value} {K : Kont} (h : RAt C w v K) : ∃ q, v = .pointer q := by cases h <;> exact ⟨_, rfl⟩
theorem RAt.but {n : Nat} {ov : Bool} {w w' : World} {v : Value} {K : Kont} (h : RAt C w v K) (hS : C.St n ov w) (hb : But [C.X] w w') : RAt C w' v K := by
  induction h with
  | done => exact .done
  | mark h1 h2 _ ih => exact .mark (h1.but hb (hS.nX h1 (by decide))) h2 ih
  | cat h1 h2 h3 _ ih => exact .cat (h1.but hb (hS.nX h1 (by decide))) h2 h3 ih
  | rep h1 h2 _ ih => exact .rep (h1.but hb (hS.nX h1 (by decide))) h2 ih
theorem RAt.later {n : Nat} {ov : Bool} {w w' : World} {v : Value} {K : Kont} (h : RAt C w v K) (hS : C.St n ov w) (hb : Below w.heap.size w w') : RAt C w' v K := h.but hS (But.of_below hb)
/-- How a call may end that does a task. -/
def RGood (C : RCtx) (E : Out → Nat → Prop) (w : World) (e : Ending) (w' : World) : Prop :=
  ∃ (o : Out) (m : Nat) (a : Option Addr) (ln c : Nat), E o m ∧ e = .returned (.tuple #[.slice a ln c, .bool o.isFound]) ∧ C.St m o.isOver w' ∧ But [C.X] w w' ∧ (∀ l, o = .found l → SpOk C.N C.s.size l ∧ SpAt [C.X] w' (.slice a ln c) l) ∧ (o.isFound = false → a = none ∧ ln = 0 ∧ c = 0)
theorem RGood.mono {E E' : Out → Nat → Prop} {w : World} {e : Ending} {w' : World} (h : RGood C E w e w') (hE : ∀ o m, E o m → E' o m) : RGood C E' w e w' := by
  obtain ⟨o, m, a, ln, c, h1, h2⟩ := h
  exact ⟨o, m, a, ln, c, hE o m h1, h2⟩
/-- What a call that hands on the end of another one makes of it. -/
theorem RGood.on {E E' : Out → Nat → Prop} {v w : World} {e : Ending} {w' : World} (h : RGood C E w e w') (hb : But [C.X] v w) (hE : ∀ o m, E o m → E' o m) : ∃ (a : Option Addr) (ln c : Nat) (fo : Bool), e = .returned (.tuple #[.slice a ln c, .bool fo]) ∧ Hid (RGood C E' v (.returned (.tuple #[.slice a ln c, .bool fo])) w') := by
  obtain ⟨o, m, a, ln, c, h1, rfl, h3, h4, h5, h6⟩ := h
  exact ⟨a, ln, c, o.isFound, rfl, o, m, a, ln, c, hE o m h1, rfl, h3, hb.trans h4, h5, h6⟩
structure RPre (C : RCtx) (n D : Nat) (sp : Spans) (K : Kont) (sv rv : Value) (w : World) : Prop where
  st : C.St n false w
  span : SpAt [C.X] w sv sp
  ok : SpOk C.N C.s.size sp
  k : RAt C w rv K
  kok : K.ok C.N C.s.size D
theorem RPre.later {n D : Nat} {sp : Spans} {K : Kont} {sv rv : Value} {w w' : World} (h : RPre C n D sp K sv rv w) (hb : Below w.heap.size w w') : RPre C n D sp K sv rv w' :=
  ⟨h.st.later hb, h.span.but (But.of_below hb), h.ok, h.k.later h.st hb, h.kok⟩
theorem RPre.mono {n D D' : Nat} {sp : Spans} {K : Kont} {sv rv : Value} {w : World} (h : RPre C n D sp K sv rv w) (hd : D ≤ D') : RPre C n D' sp K sv rv w := ⟨h.st, h.span, h.ok, h.k, h.kok.mono hd⟩
/-- The contract of do for a try. -/
def RTryC (C : RCtx) (n : Nat) : Prop := ∀ (w : World) (b : Nat) (p : Pay) (xs : List Re) (ta : Option Addr) (tc i k : Nat) (cv av : Value) (sp : Spans) (K : Kont) (sa : Option Addr) (sc : Nat) (q : Option Addr), Row w b (Tk 1 p (.slice ta xs.length tc) (.int .i64 i) (.int .i64 k) cv av (.pointer q)) 90 →
  (Re.mk p xs).In C.w0 (p.cells (.slice ta xs.length tc)) → (Re.mk p xs).ok C.N → i ≤ k → k ≤ C.s.size → RPre C n (C.B - n + 1) sp K (.slice sa sp.length sc) (.pointer q) w →
  Calls Try.prog 54 #[.pointer (some ⟨C.X, 0, none⟩), .pointer (some ⟨b, 0, none⟩), .slice sa sp.length sc] w (RGood C (Ev C.str C.lines (.try (.mk p xs) i k) sp K n) w)
/-- The contract of do for what follows. -/
def RNextC (C : RCtx) (n : Nat) (K : Kont) : Prop := ∀ (w : World) (sp : Spans) (sa : Option Addr) (sc : Nat) (q : Option Addr), RPre C n (C.B - n) sp K (.slice sa sp.length sc) (.pointer q) w →
  Calls Try.prog 54 #[.pointer (some ⟨C.X, 0, none⟩), .pointer q, .slice sa sp.length sc] w (RGood C (Ev C.str C.lines .next sp K n) w)
/-- The contract of try. -/
def RTry2C (C : RCtx) (n : Nat) : Prop := ∀ (w : World) (b : Nat) (p : Pay) (xs : List Re) (ta : Option Addr) (tc i k : Nat) (cv av : Value) (sp : Spans) (K : Kont) (sa : Option Addr) (sc : Nat) (q : Option Addr), Row w b (Tk 1 p (.slice ta xs.length tc) (.int .i64 i) (.int .i64 k) cv av (.pointer q)) 90 →
  (Re.mk p xs).In C.w0 (p.cells (.slice ta xs.length tc)) → (Re.mk p xs).ok C.N → i ≤ k → k ≤ C.s.size → RPre C n (C.B - n) sp K (.slice sa sp.length sc) (.pointer q) w →
  Calls Try.prog 67 #[.pointer (some ⟨C.X, 0, none⟩), .pointer (some ⟨b, 0, none⟩), .slice sa sp.length sc] w (RGood C (Ev C.str C.lines (.try (.mk p xs) i k) sp K (n + 1)) w)
/-- The contract of cat. -/
def RCatC (C : RCtx) (n : Nat) : Prop := ∀ (w : World) (b : Nat) (p : Pay) (sl cv : Value) (a : Option Addr) (r : Nat) (xs : List Re) (i k : Nat) (sp : Spans) (K : Kont) (sa : Option Addr) (sc : Nat) (q : Option Addr), Row w b (Tk 2 p sl (.int .i64 i) (.int .i64 k) cv (.slice a xs.length r) (.pointer q)) 90 →
  xs ≠ [] → Re.AllIn C.w0 xs a 0 → xs.length ≤ r → r ≤ maxLen → Re.oks C.N xs → i ≤ k → k ≤ C.s.size → RPre C n (C.B - n) sp K (.slice sa sp.length sc) (.pointer q) w →
  Calls Try.prog 68 #[.pointer (some ⟨C.X, 0, none⟩), .pointer (some ⟨b, 0, none⟩), .slice sa sp.length sc] w (RGood C (Ev C.str C.lines (.cat xs i k) sp K n) w)
/-- The contract of repeat. -/
def RRepC (C : RCtx) (n : Nat) (K : Kont) : Prop := ∀ (w : World) (b : Nat) (p : Pay) (x0 : Re) (ta : Option Addr) (tc : Nat) (av : Value) (c i k : Nat) (sp : Spans) (sa : Option Addr) (sc : Nat) (q : Option Addr), Row w b (Tk 3 p (.slice ta 1 tc) (.int .i64 i) (.int .i64 k) (.int .i64 c) av (.pointer q)) 90 →
  p.op = 5 → (Re.mk p [x0]).In C.w0 (p.cells (.slice ta 1 tc)) → (Re.mk p [x0]).ok C.N → c ≤ C.B - n → i ≤ k → k ≤ C.s.size → RPre C n (C.B - n) sp K (.slice sa sp.length sc) (.pointer q) w →
  Calls Try.prog 69 #[.pointer (some ⟨C.X, 0, none⟩), .pointer (some ⟨b, 0, none⟩), .slice sa sp.length sc] w (RGood C (Ev C.str C.lines (.rep p x0 c i k) sp K n) w)
end Go.Proofs.Ytnnocekencaadaa

/- Reback: the end of a search keeps the spans. -/
namespace Go.Proofs.Ytnnocekencaadaa
open Go.RowKit
attribute [local go_sem] gives givesUpon

set_option maxHeartbeats 1000000 in
theorem endB_any (w : World) (G : Nat) (old : Value) (a : Option Addr) (n c : Nat) (h : Row w G [old] 33) :
    Calls Try.prog 45 #[.slice a n c, .pointer (some ⟨G, 0, none⟩)] w fun e w' => e = .returned (.bool true) ∧ Row w' G [.slice a n c] 33 ∧ But [G] w w' ∧ w'.heap.size = w.heap.size := by
  have q := h.cell 0
  have qf := h.free 0
  have HR := hid h
  clear h
  go_enter Try.func45, Try.ntmps45
  go_wp2_with fail
  all_goals (try go_ret)
  all_goals exact ⟨rfl, HR.out.set 0 _, (But.refl _ w).setCell (.inl (by simp)) _, by simp [World.setCell]⟩
variable {C : Ctx}
theorem next_done (n : Nat) : NextC C n .done := by
  intro w sp sv fid cap h
  obtain ⟨h1, h2, h3, h4, h5⟩ := h
  obtain ⟨old, hg⟩ := h1.g
  obtain ⟨a, c, rfl⟩ := h2.form
  cases h4
  refine (endB_any w C.G old a sp.length c hg).mono ?_
  rintro e w' ⟨rfl, hr, hb, hs⟩
  have hb' : But C.S w w' := hb.mono (fun k hk => .inl (by rw [List.mem_singleton.1 hk]; simp [Ctx.S]))
  refine ⟨.found sp, n, .nextDone, rfl, ?_, hb', fun l hl => ?_⟩
  · refine ⟨?_, h1.m.but hb (by simpa using h1.ne), h1.mb.but hb (fun hm => h1.mbS (by simp [Ctx.S] at hm ⊢; exact .inr hm)), ⟨_, hr⟩, h1.oM, h1.oG, h1.nB, h1.big, h1.len, h1.few⟩
    exact h1.below.trans (hb.below h1.below.size (fun k hk => by rw [List.mem_singleton.1 hk]; exact h1.oG))
  · injection hl with hl
    subst hl
    exact ⟨h3, _, hr, h2.but hb'⟩
end Go.Proofs.Ytnnocekencaadaa

/- The list of a set's bytes. -/
namespace Go.Proofs.Ytnnocekencaadaa
open Go.RowKit

def Cs.nums (s : Cs) (k : Nat) : List Int := ((List.range k).filter s.has).map Int.ofNat
theorem Cs.nums_succ (s : Cs) (k : Nat) : s.nums (k + 1) = s.nums k ++ if s.has k then [(k : Int)] else [] := by
  unfold Cs.nums
  rw [List.range_succ, List.filter_append, List.map_append]
  by_cases h : s.has k <;> simp [h]
theorem Cs.nums_le (s : Cs) (k : Nat) : (s.nums k).length ≤ k := by
  unfold Cs.nums
  rw [List.length_map]
  exact Nat.le_trans (List.length_filter_le _ _) (by simp)
/-- The bytes of a set, in ascending order. -/
def Cs.str (s : Cs) : ByteArray := strOfNums (s.nums 256)

theorem info_u8 : (Try.prog.info? 5).map (fun i => (i.zero, i.size, i.bytes)) = some (some (.int .u8 0), 1, 1) := by kernel_rfl

end Go.Proofs.Ytnnocekencaadaa

/- The small functions on lengths: what each call returns. -/
namespace Go.Proofs.Ytnnocekencaadaa
open Go.RowKit

/-- A length: -1 (no bound), or a number up to 2^31 - 1. -/
def Len (a : Int) : Prop := -1 ≤ a ∧ a ≤ 2147483647

def lsum (a b : Int) : Int := if a < 0 ∨ b < 0 then -1 else min 2147483647 (a + b)
def ltimes (a n : Int) : Int := if a = 0 ∨ n = 0 then 0 else if a < 0 ∨ n < 0 then -1 else min 2147483647 (a * n)

theorem Len.lsum {a b : Int} (ha : Len a) (hb : Len b) : Len (lsum a b) := by
  unfold Len at *; unfold Proofs.Ytnnocekencaadaa.lsum; split <;> omega
theorem Len.ltimes {a n : Int} (ha : Len a) : Len (ltimes a n) := by
  unfold Len at *; unfold Proofs.Ytnnocekencaadaa.ltimes
  split
  · omega
  split
  · omega
  · have : 0 ≤ a * n := Int.mul_nonneg (by omega) (by omega)
    omega




theorem mul_bd {a n : Int} (ha : 0 ≤ a) (ha2 : a ≤ 2147483647) (hn : 0 ≤ n) (hn2 : n ≤ 64) : 0 ≤ a * n ∧ a * n ≤ 137438953408 :=
  ⟨Int.mul_nonneg ha hn, by have := Int.mul_le_mul ha2 hn2 hn (by decide : (0 : Int) ≤ 2147483647); omega⟩



/-- The number of nodes of what stands for a repetition of n nodes. -/
def weightL (n lo hi : Int) : Int :=
  if (lo = 0 ∧ (hi = 1 ∨ hi = -1)) ∨ (lo = 1 ∧ hi = -1) then n + 1 else if hi = 0 then 1 else if lo = 1 ∧ hi = 1 then n else if hi = lo then 1 + lo * n else if hi = -1 then 2 + lo * n else 1 + lo * n + (hi - lo) * (n + 1)



end Go.Proofs.Ytnnocekencaadaa
