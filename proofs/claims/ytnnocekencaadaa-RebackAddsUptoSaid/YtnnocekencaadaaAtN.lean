/- Reback: a search at an offset. -/
import Derived.Test.YtnnocekencaadaaRepM
import Derived.Test.YtnnocekencaadaaFindP
namespace Go.Proofs.Ytnnocekencaadaa
open Go.RowKit
attribute [local go_sem] gives givesUpon
variable {C : Ctx}

theorem results_cell_tmp {P : Program} {fn : Func} {p t : Tmp} {ty : TypeId} (h : fn.results = #[.cell p ty, .tmp t]) (tmps : Array Value) (w : World) (g : Nat) (T : TypeId) (cs : Array Value) (fr : Nat × Nat) (d : TypeDesc)
    (hp : tmps.getD p undef = .pointer (some ⟨g, 0, none⟩)) (hg : w.heap[g]? = some (.cells cs T fr))
    (hu : P.underlying ty = some d) (hd : (match d with | .struct _ | .array _ _ => true | _ => false) = true) (hi : (P.info? ty).map (·.size) = some cs.size) :
    (results fn tmps).run P w = .ok (.tuple #[.agg cs, tmps.getD t undef]) w := by
  have hp' : tmps[p]?.getD undef = .pointer (some ⟨g, 0, none⟩) := by simpa using hp
  simp [results, h, hp', asAddr, run_loadVar_row w g T ty cs fr d hg hu hd hi]
theorem results_cell_tmp3 {P : Program} {fn : Func} {p t1 t2 t3 : Tmp} {ty : TypeId} (h : fn.results = #[.cell p ty, .tmp t1, .tmp t2, .tmp t3]) (tmps : Array Value) (w : World) (g : Nat) (T : TypeId) (cs : Array Value) (fr : Nat × Nat) (d : TypeDesc)
    (hp : tmps.getD p undef = .pointer (some ⟨g, 0, none⟩)) (hg : w.heap[g]? = some (.cells cs T fr))
    (hu : P.underlying ty = some d) (hd : (match d with | .struct _ | .array _ _ => true | _ => false) = true) (hi : (P.info? ty).map (·.size) = some cs.size) :
    (results fn tmps).run P w = .ok (.tuple #[.agg cs, tmps.getD t1 undef, tmps.getD t2 undef, tmps.getD t3 undef]) w := by
  have hp' : tmps[p]?.getD undef = .pointer (some ⟨g, 0, none⟩) := by simpa using hp
  simp [results, h, hp', asAddr, run_loadVar_row w g T ty cs fr d hg hu hd hi]

/-- Spans that the call owns: nil if there are none. -/
def OwnSp (w : World) (base : Nat) (v : Value) (l : Spans) : Prop := (l = [] → v = .slice none 0 0) ∧ w.ownsRow base 44 2 v l.length (spc l)
theorem OwnSp.below {w w' : World} {base : Nat} {v : Value} {l : Spans} (h : OwnSp w base v l) (hb : Below w.heap.size w w') : OwnSp w' base v l :=
  ⟨h.1, h.2.kept (row := none) ⟨hb.os, hb.tape, hb.output, hb.size, fun k hk _ => hb.block k hk⟩ (by cases v.ownBlock <;> simp)⟩
theorem OwnSp.spb {w : World} {base : Nat} {a : Option Addr} {n c : Nat} {l : Spans} (h : OwnSp w base (.slice a n c) l) : SpB (base ≤ ·) w (.slice a n c) l := by
  by_cases h0 : l = []
  · exact .inl ⟨h0, h.1 h0⟩
  · obtain ⟨a', c', e⟩ := ownsRow_shape h.2
    injection e with e1 e2 e3
    subst e2
    exact SpB.own h.2 rfl h0
theorem OwnSp.app {w' : World} {base : Nat} {a' : Option Addr} {n' c' : Nat} {l m : Spans} (hm : m ≠ []) (h : w'.ownsRow base 44 2 (.slice a' n' c') n' (spc l ++ spc m)) (hn : n' = l.length + m.length) : OwnSp w' base (.slice a' n' c') (l ++ m) := by
  refine ⟨fun e => absurd (List.append_eq_nil_iff.1 e).2 hm, ?_⟩
  rw [List.length_append, ← hn, spc_append]
  exact h

set_option maxRecDepth 100000 in
set_option maxHeartbeats 8000000 in
theorem none_any (w : World) (N : Nat) (hN : N ≤ 9) :
    Calls Try.prog 47 #[.int .i64 N] w fun e w' => ∃ a c, e = .returned (.slice a N c) ∧ Below w.heap.size w w' ∧ SpB (w.heap.size ≤ ·) w' (.slice a N c) (unsetAll N) := by
  obtain ⟨i0, hi, hz0, hz1, hz2⟩ := info_parts info_span
  go_enter Try.func47, Try.ntmps47
  go_wp2_with fail
  go_loopw [3, 5] (fun v i wr => ∃ (k : Nat) (a : Option Addr) (c : Nat), k ≤ N ∧ v = .slice a k c ∧ i = .int .i64 k ∧ Hid (OwnSp wr w.heap.size (.slice a k c) (unsetAll k) ∧ Below w.heap.size w wr)) (fun _ i _ => N - (intOf i).toNat)
  case atStart => exact ⟨0, none, 0, Nat.zero_le _, rfl, rfl, ⟨fun _ => rfl, World.ownsRow_nil _ _ _ _⟩, Below.refl _ _⟩
  case round =>
    obtain ⟨k, a, c, hk, rfl, rfl, HX⟩ := hrel
    by_cases hlt : k < N
    · have hltI : (k : Int) < N := by omega
      have hlk : (unsetAll k).length = k := by simp [unsetAll]
      have hown := HX.out.1.2
      rw [hlk] at hown
      have HOW := hid hown
      have hsz := HX.out.2.size
      clear hown
      go_wp2_with (at_builtin; refine wpList_append_row rfl _ _ 33 rfl w.heap.size 44 i0 (.agg #[.int .i64 0, .int .i64 0]) 2 16 Try.underlying33 hi hz0 hz1 hz2 rfl (by decide) _ k (spc (unsetAll k)) rfl ?c0 ⟨wr.heap.size, 0, none⟩ 1 1 [.int .i64 (-1), .int .i64 (-1)] rfl rfl ?c1 ?c2 ?c3 ?c4 ?c5 (by decide) ?_)
      case c0 => exact HOW.out.alloc _
      case c1 =>
        intro j u hj
        rw [Addr.add_lit, Nat.zero_add]
        exact (Row.new (w := wr) (cs := [.int .i64 (-1), .int .i64 (-1)]) (T := 44) rfl).cell j ▸ hj
      case c2 => intro u hu; simp at hu; rcases hu with rfl | rfl <;> rfl
      case c3 => unfold maxLen; omega
      case c4 => omega
      case c5 => simp; omega
      intro a2 c2 w3 hown3 hgrow hnw
      have hap : OwnSp w3 w.heap.size (.slice a2 (k + 1) c2) (unsetAll (k + 1)) := by
        have := OwnSp.app (m := [(-1, -1)]) (l := unsetAll k) (by simp) hown3 (by rw [hlk]; rfl)
        rw [show unsetAll k ++ [((-1 : Int), (-1 : Int))] = unsetAll (k + 1) from (List.replicate_succ' ..).symm] at this
        exact this
      have hbw : Below w.heap.size w w3 := (HX.out.2.alloc (by omega) _).grown hgrow (by simp; omega) (fun g hg => by
        have := (World.ownsRow.lt HOW.out g hg).1
        omega)
      have HN := hid (⟨hap, hbw⟩ : _ ∧ _)
      clear hown3 hgrow hnw hap hbw
      go_wp2_with fail
      refine ⟨⟨k + 1, a2, c2, by omega, rfl, by go_num, HN.out⟩, ?_⟩
      simp [intOf]; omega
    · obtain rfl : k = N := by omega
      go_wp2_with fail
      go_ret
      exact ⟨a, c, rfl, HX.out.2, HX.out.1.spb⟩

/-- The search between two tries. -/
structure Rest (C : Ctx) (n : Nat) (ov : Bool) (w : World) : Prop where
  below : Below C.w0.heap.size C.w0 w
  m : Row w C.M (C.cells ((C.B - n : Nat) : Int) ov) 59
  mb : Row w C.MB [.pointer (some ⟨C.M, 0, none⟩)] 52
  oM : C.w0.heap.size ≤ C.M
  nB : n ≤ C.B
  big : C.B ≤ 20000
  len : C.s.size ≤ 1000000
  few : C.N ≤ 9
theorem Rest.later {n : Nat} {ov : Bool} {w w' : World} (h : Rest C n ov w) (hb : Below w.heap.size w w') : Rest C n ov w' :=
  ⟨h.below.trans (hb.mono h.below.size), h.m.below hb h.m.lt, h.mb.below hb h.mb.lt, h.oM, h.nB, h.big, h.len, h.few⟩
@[reducible] def Ctx.on (C : Ctx) (g : Nat) : Ctx := { C with G := g }
theorem Rest.st {n : Nat} {ov : Bool} {w : World} (h : Rest C n ov w) {g : Nat} {old : Value} (hg : Row w g [old] 33) (h0 : C.w0.heap.size ≤ g) : (C.on g).St n ov w :=
  ⟨h.below, h.m, h.mb, ⟨old, hg⟩, h.oM, h0, h.nB, h.big, h.len, h.few⟩
theorem Rest.of {n : Nat} {ov : Bool} {w : World} {g : Nat} (h : (C.on g).St n ov w) : Rest C n ov w :=
  ⟨h.below, h.m, h.mb, h.oM, h.nB, h.big, h.len, h.few⟩
theorem Rest.c {n : Nat} {ov : Bool} {w : World} (h : Rest C n ov w) : w.cell? ⟨C.M, 0, none⟩ = some (.string C.s) ∧ w.cell? ⟨C.M, 2, none⟩ = some (.int .i64 ((C.B - n : Nat) : Int)) ∧ w.cell? ⟨C.M, 3, none⟩ = some (.int .i64 C.B) ∧ w.cell? ⟨C.M, 4, none⟩ = some (.bool ov) :=
  ⟨h.m.cell 0, h.m.cell 2, h.m.cell 3, h.m.cell 4⟩
theorem Rest.nM {n : Nat} {ov : Bool} {w : World} (h : Rest C n ov w) {b : Nat} {cs : List Value} {T : TypeId} (hr : Row w b cs T) (h1 : T ≠ 59) : b ∉ [C.M] := by
  intro hm
  have e := List.mem_singleton.1 hm
  subst e; exact h1 (hr.typed h.m)
theorem Rest.put {n : Nat} {ov : Bool} {w : World} (h : Rest C n ov w) {b : Nat} {cs : List Value} {T : TypeId} (hr : Row w b cs T) (h1 : T ≠ 59) (h2 : T ≠ 52) (h3 : C.w0.heap.size ≤ b) (j : Nat) (v : Value) : Rest C n ov (w.setCell ⟨b, j, none⟩ v) :=
  ⟨h.below.setCell (by exact h3) _, h.m.other (fun e => by subst e; exact h1 (hr.typed h.m)) _ _, h.mb.other (fun e => by subst e; exact h2 (hr.typed h.mb)) _ _, h.oM, h.nB, h.big, h.len, h.few⟩
/-- How a search at offsets may end. -/
def AtPost (C : Ctx) (E : Out → Nat → Prop) (w : World) (e : Ending) (w' : World) : Prop :=
  ∃ (o : Out) (m : Nat) (v : Value), E o m ∧ e = .returned (.tuple #[.agg #[v], .bool o.isFound]) ∧ Rest C m o.isOver w' ∧ But [C.M] w w' ∧ (∀ l, o = .found l → SpB (w.heap.size ≤ ·) w' v l) ∧ (o.isFound = false → v = .slice none 0 0)
end Go.Proofs.Ytnnocekencaadaa
