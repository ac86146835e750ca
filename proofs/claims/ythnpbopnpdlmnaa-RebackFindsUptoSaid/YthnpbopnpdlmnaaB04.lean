/- The small functions on lengths: what each call returns. -/
import Derived.Test.YthnpbopnpdlmnaaProg
import Derived.Test.YthnpbopnpdlmnaaB01
import Derived.Test.YthnpbopnpdlmnaaB03
import Derived.Test.YthnpbopnpdlmnaaB02
import Derived.RegionTactic
import Derived.BigRegion
import Derived.Deep.QuietTactic
import Derived.BigQuiet
namespace Go.Proofs.Ythnpbopnpdlmnaa
open Go.RowKit

/-- A length: -1 (no bound), or a number up to 2^31 - 1. -/
def Len (a : Int) : Prop := -1 ≤ a ∧ a ≤ 2147483647

def lsum (a b : Int) : Int := if a < 0 ∨ b < 0 then -1 else min 2147483647 (a + b)
def ltimes (a n : Int) : Int := if a = 0 ∨ n = 0 then 0 else if a < 0 ∨ n < 0 then -1 else min 2147483647 (a * n)

theorem Len.lsum {a b : Int} (ha : Len a) (hb : Len b) : Len (lsum a b) := by
  unfold Len at *; unfold Proofs.Ythnpbopnpdlmnaa.lsum; split <;> omega
theorem Len.ltimes {a n : Int} (ha : Len a) : Len (ltimes a n) := by
  unfold Len at *; unfold Proofs.Ythnpbopnpdlmnaa.ltimes
  split
  · omega
  split
  · omega
  · have : 0 ≤ a * n := Int.mul_nonneg (by omega) (by omega)
    omega




end Go.Proofs.Ythnpbopnpdlmnaa

/- What is known of a tree: nullable, lengths, first bytes. The program's cat and alt of two such facts. -/
namespace Go.Proofs.Ythnpbopnpdlmnaa
open Go.RowKit
attribute [local go_sem] gives givesUpon


def Grow (x y : World) : Prop := Below x.heap.size x y
theorem Grow.refl (x : World) : Grow x x := Below.refl _ x
theorem Grow.trans {x y z : World} (h : Grow x y) (k : Grow y z) : Grow x z := Below.trans h (k.mono h.size)
theorem Grow.alloc (x : World) (o : Obj) : Grow x (x.alloc o) := (Below.refl _ x).alloc (Nat.le_refl _) _
theorem Grow.size {x y : World} (h : Grow x y) : x.heap.size ≤ y.heap.size := Below.size h

structure Facts where
  null : Bool
  least : Int
  most : Int
  first : Cs
deriving DecidableEq
structure Facts.wf (f : Facts) : Prop where
  least : Len f.least
  most : Len f.most
  first : f.first.wf
def Facts.cells (f : Facts) : List Value := [.bool f.null, .int .i64 f.least, .int .i64 f.most, .int .u64 f.first.a, .int .u64 f.first.b, .int .u64 f.first.c, .int .u64 f.first.d]
def Facts.cat (a b : Facts) : Facts := ⟨a.null && b.null, lsum a.least b.least, lsum a.most b.most, if a.null then a.first.union b.first else a.first⟩
def Facts.alt (a b : Facts) : Facts := ⟨a.null || b.null, min a.least b.least, if a.most < 0 ∨ b.most < 0 then -1 else max a.most b.most, a.first.union b.first⟩

end Go.Proofs.Ythnpbopnpdlmnaa

/- Append to a slice of the call's own: what is owned behind it, and where it may lie. Nothing here speaks of the program. -/
namespace Go.Proofs.Ythnpbopnpdlmnaa
open Go.RowKit

theorem ownsRow_base {w : World} {b b' : Nat} {e : TypeId} {size : Nat} {v : Value} {n : Nat} {xs : List Value} (h : w.ownsRow b e size v n xs) (hb : b' ≤ b) : w.ownsRow b' e size v n xs := by
  obtain ⟨h1, h2⟩ := h
  refine ⟨h1, ?_⟩
  rcases h2 with h2 | ⟨g, cap, cur, hv, hg, hr⟩
  · exact .inl h2
  · exact .inr ⟨g, cap, cur, hv, Nat.le_trans hb hg, hr⟩
theorem ownsRow_shape {w : World} {b : Nat} {e : TypeId} {size : Nat} {v : Value} {n : Nat} {xs : List Value} (h : w.ownsRow b e size v n xs) : ∃ a c, v = .slice a n c := by
  rcases h.2 with ⟨rfl, rfl⟩ | ⟨g, cap, cur, rfl, _⟩
  · exact ⟨_, _, rfl⟩
  · exact ⟨_, _, rfl⟩

theorem wpList_append_row {P : Program} {ops : Array Oper} {rest : List Oper} {o : Oper} {a : Act} {w : World} {Q : Exit → Act → World → Prop} (hgd : o.guard = none) (s x : Operand) (t : TypeId)
    (ho : o.op = .call { callee := .builtin .append, args := #[s, x], argTypes := #[t, t] })
    (base : Nat) (e : TypeId) (i : TypeInfo) (z : Value) (size bytes : Nat) (ht : P.underlying t = some (.slice e)) (hi : P.info? e = some i) (hz : i.zero = some z)
    (hsize : i.size = size) (hby : i.bytes = bytes) (hzs : z.cells.size = size) (hsz : 0 < size)
    (v : Value) (n : Nat) (xs : List Value) (hs : a.eval s = v) (hown : w.ownsRow base e size v n xs)
    (ad : Addr) (m c : Nat) (news : List Value) (hx : a.eval x = .slice (some ad) m c) (hl : news.length = m * size) (hnews : ∀ j u, news[j]? = some u → w.cell? (ad.add j) = some u) (h1 : ∀ u ∈ news, u.oneCell' = true)
    (h63 : n + m ≤ maxLen) (hbytes : (n + m) * bytes ≤ 140737488355328) (hbase : base ≤ w.heap.size) (hm : 0 < m)
    (h : ∀ a' c' w', w'.ownsRow base e size (.slice a' (n + m) c') (n + m) (xs ++ news) → w.grownBy w' v.ownBlock → (∀ g, (Value.slice a' (n + m) c').ownBlock = some g → v.ownBlock = some g ∨ w.heap.size ≤ g) →
      wpList P ops Q rest (a.put o.dst (.slice a' (n + m) c')) w') : wpList P ops Q (o :: rest) a w := by
  have grows : ∀ (ao : Option Addr) (cap : Nat), a.eval s = .slice ao n cap → (ao = none → n = 0 ∧ cap = 0) → (∀ b, ao = some b → ∀ j u, xs[j]? = some u → w.cell? (b.add j) = some u) → cap < n + m → wpList P ops Q (o :: rest) a w := by
    intro ao cap hs' hnone hold hfull
    refine wpList_append_grows w hgd s x t ho e i z size bytes ht hi hz hsize hby hzs hsz ao n cap xs hs' hnone hown.1 hold ad m c news hx hl hnews h1 hfull h63 hbytes fun v' w' ho' hg' => ?_
    obtain ⟨a', c', rfl⟩ := ownsRow_shape ho'
    refine h a' c' w' (ownsRow_base ho' hbase) ⟨hg'.os, hg'.tape, hg'.output, hg'.size, fun k hk _ => hg'.block k hk (by simp)⟩ fun g hg => .inr ?_
    exact (World.ownsRow.lt ho' g hg).1
  have hown0 := hown
  obtain ⟨hlen, hv⟩ := hown
  rcases hv with ⟨rfl, rfl⟩ | ⟨g, cap, cur, rfl, hg, hcur, hnc, hcm, hsz2, hxs⟩
  · exact grows none 0 hs (fun _ => ⟨rfl, rfl⟩) (fun b hb => by cases hb) (by omega)
  · by_cases hfit : n + m ≤ cap
    · exact wpList_append_fits w hgd s x t ho base e i size ht hi hsize g n cap xs hs hown0 ad m c news hx hl hnews h1 hfit fun w' h2 h3 => h _ _ w' h2 h3 fun k hk => .inl hk
    · exact grows (some ⟨g, 0, none⟩) cap hs (fun hb => by cases hb) (fun b hb j u hj => by cases hb; exact World.ownsRow.cells hown0 rfl j u hj) (by omega)
end Go.Proofs.Ythnpbopnpdlmnaa

/- Spans and trees as the layers of matching use them, in memory; what several layers share. -/
namespace Go.Proofs.Ythnpbopnpdlmnaa
open Go.RowKit
attribute [local go_sem] gives givesUpon

/-- The spans of the groups. -/
abbrev Spans := List (Int × Int)
mutual
/-- The groups within a tree. -/
def withinOf : Re → List Nat
  | .mk p xs => (if p.op = 6 then [p.gr.toNat] else []) ++ withinAll xs
def withinAll : List Re → List Nat
  | [] => []
  | x :: xs => withinOf x ++ withinAll xs
end
def unset (sp : Spans) (gs : List Nat) : Spans := gs.foldl (fun l g => l.set (g - 1) (-1, -1)) sp
def byteAt (s : List UInt8) (k : Nat) : UInt8 := s.getD k 0
theorem Row.typed {w : World} {B : Nat} {cs ds : List Value} {T U : TypeId} (h : Row w B cs T) (k : Row w B ds U) : T = U := by
  have e := Option.some.inj (h.symm.trans k)
  injection e
/-- The cells of spans. -/
def spc : Spans → List Value
  | [] => []
  | x :: l => .int .i64 x.1 :: .int .i64 x.2 :: spc l
theorem spc_length : ∀ l : Spans, (spc l).length = l.length * 2
  | [] => rfl
  | x :: l => by simp [spc, spc_length l]; omega
theorem spc_get : ∀ (l : Spans) (k : Nat) (x : Int × Int), l[k]? = some x → (spc l)[2 * k]? = some (.int .i64 x.1) ∧ (spc l)[2 * k + 1]? = some (.int .i64 x.2)
  | y :: l, 0, x, h => by simp at h; subst h; exact ⟨rfl, rfl⟩
  | y :: l, k + 1, x, h => by
    have := spc_get l k x (by simpa using h)
    simpa [spc, show 2 * (k + 1) = 2 * k + 2 by omega] using this
theorem spc_append : ∀ l m : Spans, spc (l ++ m) = spc l ++ spc m
  | [], m => rfl
  | x :: l, m => by simp [spc, spc_append l m]
theorem spc_set : ∀ (l : Spans) (k : Nat) (x : Int × Int), spc (l.set k x) = ((spc l).set (2 * k) (.int .i64 x.1)).set (2 * k + 1) (.int .i64 x.2)
  | [], k, x => rfl
  | y :: l, 0, x => rfl
  | y :: l, k + 1, x => by simp [spc, spc_set l k x, show 2 * (k + 1) = 2 * k + 2 by omega, show 2 * k + 2 + 1 = (2 * k + 1) + 2 by omega]
/-- The spans lie at a slice's place, in a block of which p holds. -/
def SpB (p : Nat → Prop) (w : World) (v : Value) (sp : Spans) : Prop :=
  (sp = [] ∧ v = .slice none 0 0) ∨ (sp ≠ [] ∧ ∃ (b c : Nat) (more : List Value), v = .slice (some ⟨b, 0, none⟩) sp.length c ∧ p b ∧ Row w b (spc sp ++ more) 47)
abbrev SpAt (S : List Nat) := SpB (· ∉ S)
theorem SpB.but {p : Nat → Prop} {S : List Nat} {w w' : World} {v : Value} {sp : Spans} (h : SpB p w v sp) (hf : But S w w') (hp : ∀ b, p b → b ∉ S) : SpB p w' v sp := by
  rcases h with h | ⟨h0, b, c, m, h1, h2, h3⟩
  · exact .inl h
  · exact .inr ⟨h0, b, c, m, h1, h2, h3.but hf (hp b h2)⟩
theorem SpAt.but {S : List Nat} {w w' : World} {v : Value} {sp : Spans} (h : SpAt S w v sp) (hf : But S w w') : SpAt S w' v sp := SpB.but h hf fun _ h => h
theorem SpB.below {p : Nat → Prop} {w w' : World} {v : Value} {sp : Spans} (h : SpB p w v sp) (hf : Below w.heap.size w w') : SpB p w' v sp := by
  rcases h with h | ⟨h0, b, c, m, h1, h2, h3⟩
  · exact .inl h
  · exact .inr ⟨h0, b, c, m, h1, h2, h3.below hf h3.lt⟩
theorem SpB.mono {p q : Nat → Prop} {w : World} {v : Value} {sp : Spans} (h : SpB p w v sp) (hp : ∀ b, b < w.heap.size → p b → q b) : SpB q w v sp := by
  rcases h with h | ⟨h0, b, c, m, h1, h2, h3⟩
  · exact .inl h
  · exact .inr ⟨h0, b, c, m, h1, hp b h3.lt h2, h3⟩
theorem SpB.form {p : Nat → Prop} {w : World} {v : Value} {sp : Spans} (h : SpB p w v sp) : ∃ a c, v = .slice a sp.length c := by
  rcases h with ⟨rfl, rfl⟩ | ⟨h0, b, c, m, rfl, h2, h3⟩
  · exact ⟨_, _, rfl⟩
  · exact ⟨_, _, rfl⟩
mutual
/-- A tree as Check lets it pass: N groups in all. -/
def Re.ok (N : Nat) : Re → Prop
  | .mk p xs => ((1 ≤ p.op ∧ p.op ≤ 9) ∧ Re.sizes xs ≤ 1000000) ∧ (p.op = 3 ∨ p.op = 4 → xs ≠ []) ∧ (p.op = 5 ∨ p.op = 6 → ∃ x, xs = [x]) ∧ (p.op = 6 ∨ p.op = 9 → 1 ≤ p.gr ∧ p.gr ≤ N) ∧ Re.oks N xs
def Re.oks (N : Nat) : List Re → Prop
  | [] => True
  | t :: ts => t.ok N ∧ Re.oks N ts
end
/-- Spans that may be looked at: N of them, each within the string, or unset. -/
def SpOk (N L : Nat) (sp : Spans) : Prop := sp.length = N ∧ ∀ x, x ∈ sp → x = (-1, -1) ∨ 0 ≤ x.1 ∧ x.1 ≤ x.2 ∧ x.2 ≤ L
set_option maxHeartbeats 400000 in
theorem PHas_any (s : Cs) (c : Nat) (w : World) (hs : s.wf) (hc : c < 256) :
    Calls Try.prog 70 #[.agg #[.int .u64 s.a, .int .u64 s.b, .int .u64 s.c, .int .u64 s.d], .int .u8 c] w fun e w' => e = .returned (.bool (s.has c)) ∧ Below w.heap.size w w' := by
  have h1 : ((c : Int) / 64 = 0 ∨ (c : Int) / 64 = 1 ∨ (c : Int) / 64 = 2 ∨ (c : Int) / 64 = 3) := by omega
  have h0 : (0 : Int) ≤ c ∧ (c : Int) < 256 := by omega
  have h2 : 0 ≤ (c : Int) % 64 ∧ (c : Int) % 64 < 64 := by omega
  rcases h1 with h | h | h | h
  all_goals
    go_enter Try.func70, Try.ntmps70
    go_wp2
    go_ret
    refine ⟨congrArg (fun b => Ending.returned (.bool b)) ((has_bit _ _ ?_).trans ?_), (Below.refl _ _).alloc (Nat.le_refl _) _⟩
    · first | exact hs.a | exact hs.b | exact hs.c | exact hs.d
    · unfold Cs.has Cs.word
      first | (rw [show c / 64 = 0 by omega]; done) | (rw [show c / 64 = 0 by omega]; rfl) | (rw [show c / 64 = 1 by omega]; rfl) | (rw [show c / 64 = 2 by omega]; rfl) | (rw [show c / 64 = 3 by omega]; rfl)
theorem grow_below {w x : World} (hx : Grow w.drew x) : Below w.heap.size w x := ⟨hx.os, hx.tape, hx.output, hx.size, hx.block⟩
theorem Row.grow {w x : World} {B : Nat} {cs : List Value} {T : TypeId} (h : Row w B cs T) (hx : Grow w.drew x) : Row x B cs T := h.below (grow_below hx) h.lt
theorem byteAt_eq {s : ByteArray} {i : Nat} (hi : i < s.size) : byteAt s.data.toList i = s[i] := by
  have h : i < s.data.toList.length := by rw [Array.length_toList]; exact hi
  unfold byteAt
  rw [List.getD_eq_getElem?_getD, List.getElem?_eq_getElem h]
  rfl
theorem below_grow {n : Nat} {w a x : World} (h : Below n w a) (hn : n ≤ a.heap.size) (hx : Grow a.drew x) : Below n w x := h.trans ((⟨hx.os, hx.tape, hx.output, hx.size, hx.block⟩ : Below a.heap.size a x).mono hn)
theorem info_span : (Try.prog.info? 47).map (fun i => (i.zero, i.size, i.bytes)) = some (some (.agg #[.int .i64 0, .int .i64 0]), 2, 16) := by kernel_rfl
theorem spc_one : ∀ (l : Spans) (u : Value), u ∈ spc l → u.oneCell' = true
  | x :: l, u, h => by
    simp only [spc, List.mem_cons] at h
    rcases h with rfl | rfl | h
    · rfl
    · rfl
    · exact spc_one l u h
/-- A list of spans that the call itself owns. -/
theorem SpB.own {w : World} {base : Nat} {a : Option Addr} {c n : Nat} {sp : Spans} (h : w.ownsRow base 47 2 (.slice a n c) n (spc sp)) (hn : n = sp.length) (h0 : sp ≠ []) : SpB (base ≤ ·) w (.slice a n c) sp := by
  subst hn
  rcases h.2 with ⟨e1, e2⟩ | ⟨g, cap, cur, hv, hg, hcur, hnc, hcm, hsz, hxs⟩
  · exact absurd (List.eq_nil_of_length_eq_zero (by simpa using e2)) h0
  · refine .inr ⟨h0, g, cap, cur.toList.drop (sp.length * 2), hv, hg, ?_⟩
    have e : spc sp ++ cur.toList.drop (sp.length * 2) = cur.toList := by
      rw [← hxs]
      exact List.take_append_drop _ _
    unfold Row
    rw [e]
    exact hcur
set_option maxRecDepth 100000 in
set_option maxHeartbeats 8000000 in
theorem cloneS_any (w : World) (p : Nat → Prop) (v : Value) (sp : Spans) (h : SpB p w v sp) (hl : sp.length ≤ 9) :
    Calls Try.prog 104 #[v] w fun e w' => ∃ a c, e = .returned (.slice a sp.length c) ∧ Below w.heap.size w w' ∧ SpB (w.heap.size ≤ ·) w' (.slice a sp.length c) sp := by
  rcases h with ⟨rfl, rfl⟩ | ⟨h0, b, c, more, rfl, hp, hr⟩
  · have hcmp : ∀ x : World, Sem.run Try.prog (binOp .eql 38 (.slice none 0 0) (.slice none 0 0)) x = .ok (.bool true) x := fun x => rfl
    go_enter Try.func104, Try.ntmps104
    go_wp2_with fail
    go_ret
    exact ⟨none, 0, rfl, Below.refl _ _, .inl ⟨rfl, rfl⟩⟩
  · obtain ⟨i0, hi, hz0, hz1, hz2⟩ := info_parts info_span
    have hpos : 0 < sp.length := List.length_pos_iff.2 h0
    have HR := hid hr
    clear hr
    have hcmp : ∀ x : World, Sem.run Try.prog (binOp .eql 38 (.slice (some ⟨b, 0, none⟩) sp.length c) (.slice none 0 0)) x = .ok (.bool false) x := fun x => rfl
    go_enter Try.func104, Try.ntmps104
    go_wp2_with (at_builtin; refine wpList_append_row rfl _ _ 38 rfl w.heap.size 47 i0 (.agg #[.int .i64 0, .int .i64 0]) 2 16 Try.underlying38 hi hz0 hz1 hz2 rfl (by decide) _ 0 [] rfl ?c0 ⟨b, 0, none⟩ sp.length c (spc sp) rfl (spc_length sp) ?c1 ?c2 ?c3 ?c4 ?c5 hpos ?_)
    case c0 => exact World.ownsRow_made w #[] 0 (Nat.le_refl _) (by unfold maxLen; omega) rfl
    case c1 =>
      intro j u hj
      rw [Addr.add_lit, Nat.zero_add, (HR.out.alloc _).cell j]
      exact List.getElem?_append_left (List.getElem?_eq_some_iff.1 hj).1 ▸ hj
    case c2 => exact spc_one sp
    case c3 => unfold maxLen; omega
    case c4 => omega
    case c5 => simp
    intro a2 c2 w3 hown hgrow hnw
    have hb3 : Below w.heap.size w w3 := ((Below.refl w.heap.size w).alloc (Nat.le_refl _) _).grown hgrow (by simp) (fun g hg => by simp [Value.ownBlock] at hg; omega)
    have HB3 := hid hb3
    have HOW := hid hown
    clear hown hgrow hnw hb3
    go_wp2_with fail
    go_ret
    exact ⟨a2, c2, rfl, HB3.out, SpB.own HOW.out rfl h0⟩
theorem Row.span {w : World} {b g : Nat} {sp : Spans} {more : List Value} {T : TypeId} (h : Row w b (spc sp ++ more) T) (hg : g < sp.length) (x : Int × Int) :
    Row ((w.setCell ⟨b, g * 2, none⟩ (.int .i64 x.1)).setCell ⟨b, g * 2 + 1, none⟩ (.int .i64 x.2)) b (spc (sp.set g x) ++ more) T := by
  have := (h.set (g * 2) (.int .i64 x.1)).set (g * 2 + 1) (.int .i64 x.2)
  have hl := spc_length sp
  rw [List.set_append_left _ _ (by omega), List.set_append_left _ _ (by rw [List.length_set]; omega)] at this
  rw [spc_set, show 2 * g = g * 2 by omega]
  exact this
def unsetAll (N : Nat) : Spans := List.replicate N (-1, -1)
theorem results_cell_tmp {P : Program} {fn : Func} {p t : Tmp} {ty : TypeId} (h : fn.results = #[.cell p ty, .tmp t]) (tmps : Array Value) (w : World) (g : Nat) (T : TypeId) (cs : Array Value) (fr : Nat × Nat) (d : TypeDesc)
    (hp : tmps.getD p undef = .pointer (some ⟨g, 0, none⟩)) (hg : w.heap[g]? = some (.cells cs T fr))
    (hu : P.underlying ty = some d) (hd : (match d with | .struct _ | .array _ _ => true | _ => false) = true) (hi : (P.info? ty).map (·.size) = some cs.size) :
    (results fn tmps).run P w = .ok (.tuple #[.agg cs, tmps.getD t undef]) w := by
  have hp' : tmps[p]?.getD undef = .pointer (some ⟨g, 0, none⟩) := by simpa using hp
  simp [results, h, hp', asAddr, run_loadVar_row w g T ty cs fr d hg hu hd hi]
theorem results_cell_tmp3 {P : Program} {fn : Func} {p t1 t2 t3 : Tmp} {ty : TypeId} (h : fn.results = #[.cell p ty, .tmp t1, .tmp t2, .tmp t3]) (tmps : Array Value) (w : World) (g : Nat) (T : TypeId) (cs : Array Value) (fr : Nat × Nat) (d : TypeDesc)
    (hp : tmps.getD p undef = .pointer (some ⟨g, 0, none⟩)) (hg : w.heap[g]? = some (.cells cs T fr))
    (hu : P.underlying ty = some d) (hd : (match d with | .struct _ | .array _ _ => true | _ => false) = true) (hi : (P.info? ty).map (·.size) = some cs.size) :
    (results fn tmps).run P w = .ok (.tuple #[.agg cs, tmps.getD t1 undef, tmps.getD t2 undef, tmps.getD t3 undef]) w := by
  have hp' : tmps[p]?.getD undef = .pointer (some ⟨g, 0, none⟩) := by simpa using hp
  simp [results, h, hp', asAddr, run_loadVar_row w g T ty cs fr d hg hu hd hi]
/-- Spans that the call owns: nil if there are none. -/
def OwnSp (w : World) (base : Nat) (v : Value) (l : Spans) : Prop := (l = [] → v = .slice none 0 0) ∧ w.ownsRow base 47 2 v l.length (spc l)
theorem OwnSp.below {w w' : World} {base : Nat} {v : Value} {l : Spans} (h : OwnSp w base v l) (hb : Below w.heap.size w w') : OwnSp w' base v l :=
  ⟨h.1, h.2.kept (row := none) ⟨hb.os, hb.tape, hb.output, hb.size, fun k hk _ => hb.block k hk⟩ (by cases v.ownBlock <;> simp)⟩
theorem OwnSp.spb {w : World} {base : Nat} {a : Option Addr} {n c : Nat} {l : Spans} (h : OwnSp w base (.slice a n c) l) : SpB (base ≤ ·) w (.slice a n c) l := by
  by_cases h0 : l = []
  · exact .inl ⟨h0, h.1 h0⟩
  · obtain ⟨a', c', e⟩ := ownsRow_shape h.2
    injection e with e1 e2 e3
    subst e2
    exact SpB.own h.2 rfl h0
theorem OwnSp.app {w' : World} {base : Nat} {a' : Option Addr} {n' c' : Nat} {l m : Spans} (hm : m ≠ []) (h : w'.ownsRow base 47 2 (.slice a' n' c') n' (spc l ++ spc m)) (hn : n' = l.length + m.length) : OwnSp w' base (.slice a' n' c') (l ++ m) := by
  refine ⟨fun e => absurd (List.append_eq_nil_iff.1 e).2 hm, ?_⟩
  rw [List.length_append, ← hn, spc_append]
  exact h
theorem Row.grownOwn {w w' : World} {B : Nat} {cs : List Value} {T e : TypeId} {base size n : Nat} {v : Value} {xs : List Value} (r : Row w B cs T) (h : w.ownsRow base e size v n xs) (hne : T ≠ e) (hg : w.grownBy w' v.ownBlock) : Row w' B cs T := by
  refine (hg.block B r.lt fun e1 => ?_).trans r
  obtain ⟨-, h2⟩ := h
  rcases h2 with ⟨hv, -⟩ | ⟨g', cap, cur, hv, -, hh, -⟩
  · rw [hv] at e1; cases e1
  · rw [hv] at e1
    have e2 : B = g' := by simpa [Value.ownBlock] using e1
    subst e2
    unfold Row at r
    rw [hh] at r
    simp only [Option.some.injEq, Obj.cells.injEq] at r
    exact hne r.2.1.symm
end Go.Proofs.Ythnpbopnpdlmnaa
