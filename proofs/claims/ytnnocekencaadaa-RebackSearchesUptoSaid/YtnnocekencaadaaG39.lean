/- Reback's laws, plainly; RebackBudget's walk. -/
import Derived.Test.YtnnocekencaadaaG38
import Derived.Test.YtnnocekencaadaaRows
import Derived.Test.YtnnocekencaadaaG04
import Derived.WalkKit
import Derived.ProofKit
import Derived.OpenShut
import Derived.JoinedCond
import Derived.Carry
import Derived.ChangeArms
namespace Go.Proofs.Ytnnocekencaadaa
open Go.RowKit
attribute [local go_sem] gives givesUpon

theorem Ev.len {s : List UInt8} {lines : Bool} {J sp K n o m} (h : Ev s lines J sp K n o m) : ∀ l, o = .found l → l.length = sp.length := by
  induction h with
  | tryOver => intro l h; cases h
  | leafFail => intro l h; cases h
  | catjNone => intro l h; cases h
  | altNone => intro l h; cases h
  | repjFail => intro l h; cases h
  | nextDone => intro l h; injection h with h; rw [h]
  | leaf _ _ _ ih => exact ih
  | tryCat _ _ ih => exact ih
  | tryAlt _ _ ih => exact ih
  | tryRep _ _ ih => exact ih
  | tryGroup _ _ ih => exact ih
  | catOne _ ih => exact ih
  | catMore _ ih => exact ih
  | catjHit _ _ ih => exact ih
  | catjMiss _ _ _ ih => exact ih
  | altHit _ _ ih => exact ih
  | altMiss _ _ _ ih => exact ih
  | repMay _ _ ih => exact ih
  | repNot _ _ ih => exact ih
  | repjHit _ _ ih => intro l h; rw [ih l h, unset_length]
  | repjMiss _ _ _ ih => exact ih
  | repjEnd _ _ ih => exact ih
  | nextMark _ ih => intro l h; rw [ih l h, List.length_set]
  | nextCat _ ih => exact ih
  | nextRep _ ih => exact ih
theorem EvAt.len {s : List UInt8} {lines : Bool} {e : Re} {N a c n o m} (h : EvAt s lines e N a c n o m) : ∀ l, o = .found l → l.length = N + 1 := by
  induction h with
  | none => intro l h; cases h
  | hit h => intro l e; injection e with e; subst e; have := Ev.len h _ rfl; simp [unsetAll] at this; simp [this]
  | over => intro l h; cases h
  | miss _ _ ih => exact ih
theorem EvFind.len {s : List UInt8} {lines : Bool} {e : Re} {N a c n o m} (h : EvFind s lines e N a c n o m) : ∀ l, o = .found l → l.length = N + 1 := by
  induction h with
  | none => intro l h; cases h
  | hit h _ => exact EvAt.len h
  | miss _ _ ih => exact ih
/-- The spans of an outcome. -/
def Out.lst : Out → Spans
  | .found l => l
  | _ => []
theorem Api.len {t : Re} {s : ByteArray} {at_ : Int} {d : Nat → Nat} {lines : Bool} {B : Nat} {o : Out} {k x : Int} (h : Api t s at_ d lines B o k x) : o.lst.length ≤ 1000 := by
  rcases h with ⟨_, rfl, _⟩ | ⟨h0, m, hm, h1, _⟩
  · simp [Out.lst]
  · have hg := (Re.ok_err (chk_zero h0).1).2.1
    cases o with
    | found l => have := EvFind.len h1 l rfl; show l.length ≤ 1000; omega
    | fail => simp [Out.lst]
    | over => simp [Out.lst]
theorem err_vals (t : Re) : t.err = 0 ∨ t.err = 7 ∨ t.err = 2 ∨ t.err = 4 ∨ t.err = 3 := by
  unfold Re.err
  split
  · omega
  split
  · omega
  split
  · omega
  split <;> omega
theorem chk_vals (t : Re) (s : ByteArray) (at_ : Int) : chk t s at_ ≠ 11 := by
  unfold chk
  have := err_vals t
  split
  · omega
  · split <;> omega
theorem Api.bad {t : Re} {s : ByteArray} {at_ : Int} {d : Nat → Nat} {lines : Bool} {B : Nat} {o : Out} {k x : Int} (h : Api t s at_ d lines B o k x) (hx : x ≠ 0) : o.isFound = false ∧ (x = 11 → k = B) := by
  rcases h with ⟨_, rfl, _, rfl⟩ | ⟨h0, m, hm, h1, rfl, rfl⟩
  · exact ⟨rfl, fun h => absurd h (chk_vals _ _ _)⟩
  · cases o with
    | found l => exact absurd rfl hx
    | fail => exact absurd rfl hx
    | over => have := (EvFind.left _ _ _ _ h1).2 rfl; exact ⟨rfl, fun _ => by rw [this]; simp⟩
theorem Api.good {t : Re} {s : ByteArray} {at_ : Int} {d : Nat → Nat} {lines : Bool} {B : Nat} {o : Out} {k : Int} (h : Api t s at_ d lines B o k 0) : chk t s at_ = 0 ∧ o ≠ .over ∧ ∃ m : Nat, m ≤ B ∧ EvFind s.data.toList lines t t.groups at_.toNat (d at_.toNat) B o m ∧ k = ((B - m : Nat) : Int) := by
  rcases h with ⟨h0, _, _, h1⟩ | ⟨h0, m, hm, h1, rfl, hx⟩
  · exact absurd h1.symm h0
  · exact ⟨h0, (fun e => by subst e; cases hx), m, hm, h1, rfl⟩
theorem Api.again {t : Re} {s : ByteArray} {at_ : Int} {d : Nat → Nat} {lines : Bool} {B B' : Nat} {o o' : Out} {k k' x' : Int} (h : Api t s at_ d lines B o k 0) (hB : k = B') (h' : Api t s at_ d lines B' o' k' x') : o' = o ∧ k' = k ∧ x' = 0 := by
  obtain ⟨h0, ho, m, hm, h1, rfl⟩ := h.good
  have e := (EvFind.cost _ _ _ _ h1 ho B').1 (by omega)
  rw [show B' - (B - m) = 0 by omega] at e
  obtain ⟨e1, e2, e3⟩ := Api.det h' (.inr ⟨h0, 0, Nat.zero_le _, e, rfl, rfl⟩)
  refine ⟨e1, by rw [e2, hB]; simp, by rw [e3]; cases o with | over => exact absurd rfl ho | found l => rfl | fail => rfl⟩
theorem Api.less {t : Re} {s : ByteArray} {at_ : Int} {d : Nat → Nat} {lines : Bool} {B B' : Nat} {o o' : Out} {k k' x' : Int} (h : Api t s at_ d lines B o k 0) (hB : (B' : Int) < k) (h' : Api t s at_ d lines B' o' k' x') : o' = .over ∧ k' = B' ∧ x' = 11 := by
  obtain ⟨h0, ho, m, hm, h1, rfl⟩ := h.good
  have e := (EvFind.cost _ _ _ _ h1 ho B').2 (by omega)
  obtain ⟨e1, e2, e3⟩ := Api.det h' (.inr ⟨h0, 0, Nat.zero_le _, e, rfl, rfl⟩)
  exact ⟨e1, by rw [e2]; simp, e3⟩
theorem Ev.try_pos {s : List UInt8} {lines : Bool} {e : Re} {i k : Nat} {sp : Spans} {K : Kont} {n : Nat} {o : Out} {m : Nat} (h : Ev s lines (.try e i k) sp K n o m) (ho : o ≠ .over) : m < n := by
  cases h with
  | tryOver => exact absurd rfl ho
  | leafFail => omega
  | leaf _ _ h => have := (Ev.left s lines h).1; omega
  | tryCat _ h => have := (Ev.left s lines h).1; omega
  | tryAlt _ h => have := (Ev.left s lines h).1; omega
  | tryRep _ h => have := (Ev.left s lines h).1; omega
  | tryGroup _ h => have := (Ev.left s lines h).1; omega
theorem EvAt.pos {s : List UInt8} {lines : Bool} {e : Re} {N a c n : Nat} {o : Out} {m : Nat} (h : EvAt s lines e N a c n o m) (hc : 0 < c) (ho : o ≠ .over) : m < n := by
  cases h with
  | none => omega
  | hit h => exact Ev.try_pos h (by intro h; cases h)
  | over h => exact absurd rfl ho
  | miss h hr => have := Ev.try_pos h (by intro h; cases h); have := (EvAt.left s lines e N hr).1; omega
theorem EvFind.pos {s : List UInt8} {lines : Bool} {e : Re} {N i d n : Nat} {o : Out} {m : Nat} (h : EvFind s lines e N i d n o m) (hd : 0 < d) (hi : i ≤ s.length) (ho : o ≠ .over) : m < n := by
  cases h with
  | none => omega
  | hit h _ => exact EvAt.pos h (by omega) ho
  | miss h hr => have := EvAt.pos h (by omega) (by intro h; cases h); have := (EvFind.left s lines e N hr).1; omega
theorem Api.pos {t : Re} {s : ByteArray} {at_ : Int} {d : Nat → Nat} {lines : Bool} {B : Nat} {o : Out} {k : Int} (h : Api t s at_ d lines B o k 0) (hd : ∀ f, f ≤ s.size → 0 < d f) : 0 < k := by
  obtain ⟨h0, ho, m, hm, h1, rfl⟩ := h.good
  have hc := chk_zero h0
  have hsl : s.data.toList.length = s.size := by rw [Array.length_toList]; rfl
  have := EvFind.pos h1 (hd _ (by omega)) (by omega) ho
  omega
theorem SpB.lst {w w' : World} {v : Value} {o : Out} (h1 : ∀ l, o = .found l → SpB (w.heap.size ≤ ·) w' v l) (h2 : o.isFound = false → v = .slice none 0 0) : SpB (w.heap.size ≤ ·) w' v o.lst := by
  cases o with
  | found l => exact h1 l rfl
  | fail => exact .inl ⟨rfl, h2 rfl⟩
  | over => exact .inl ⟨rfl, h2 rfl⟩

-- def BX := [.int .i64 p.op, .int .u64 p.set.a, .int .u64 p.set.b, .int .u64 p.set.c, .int .u64 p.set.d, .int .i64 p.lo, .int .i64 p.hi, .int .i64 p.gr, .slice ad n c]
-- def CX := [.string s, .int .i64 at_, .bool lines, .int .i64 budget]
-- def W2 := ((w.alloc (.cells #[.int .i64 p.op, .int .u64 p.set.a, .int .u64 p.set.b, .int .u64 p.set.c, .int .u64 p.set.d, .int .i64 p.lo, .int .i64 p.hi, .int .i64 p.gr, .slice ad n c] 28)).alloc (.cells #[.string s, .int .i64 at_, .bool lines, .int .i64 budget] 30))
/-- A law's frame: its two arguments in blocks of their own. -/
def LB (w : World) (t : Re) (BXL CXL : List Value) (x : World) : Prop := Row x w.heap.size BXL 28 ∧ Row x (w.heap.size + 1) CXL 30 ∧ Below w.heap.size w x ∧ t.In x BXL
theorem LB.later {w : World} {t : Re} {BXL CXL : List Value} {x y : World} (h : LB w t BXL CXL x) (hb : Below x.heap.size x y) : LB w t BXL CXL y :=
  ⟨h.1.below hb h.1.lt, h.2.1.below hb h.2.1.lt, h.2.2.1.trans (hb.mono h.2.2.1.size), h.2.2.2.below hb⟩

set_option maxRecDepth 100000 in
set_option maxHeartbeats 16000000 in
theorem LawBudget_any (w : World) (t : Re) (cs : List Value) (s : ByteArray) (at_ budget : Int) (lines : Bool) (hin : t.In w cs) (hsz : t.size ≤ 1048576) (hs : (s.size : Int) ≤ 9223372036854775807) (hbi : -9223372036854775808 ≤ budget) :
    Calls Try.prog 5 #[.agg cs.toArray, .agg #[.string s, .int .i64 at_, .bool lines, .int .i64 budget]] w fun e w' => e = .returned (.bool true) ∧ Below w.heap.size w w' := by
  obtain ⟨p, ad, n, c, rfl⟩ := Re.cells_shape hin
  have hBl : Below w.heap.size w ((w.alloc (.cells #[.int .i64 p.op, .int .u64 p.set.a, .int .u64 p.set.b, .int .u64 p.set.c, .int .u64 p.set.d, .int .i64 p.lo, .int .i64 p.hi, .int .i64 p.gr, .slice ad n c] 28)).alloc (.cells #[.string s, .int .i64 at_, .bool lines, .int .i64 budget] 30)) := ((Below.refl w.heap.size w).alloc (Nat.le_refl _) _).alloc (by simp) _
  have hL : LB w t [.int .i64 p.op, .int .u64 p.set.a, .int .u64 p.set.b, .int .u64 p.set.c, .int .u64 p.set.d, .int .i64 p.lo, .int .i64 p.hi, .int .i64 p.gr, .slice ad n c] [.string s, .int .i64 at_, .bool lines, .int .i64 budget] ((w.alloc (.cells #[.int .i64 p.op, .int .u64 p.set.a, .int .u64 p.set.b, .int .u64 p.set.c, .int .u64 p.set.d, .int .i64 p.lo, .int .i64 p.hi, .int .i64 p.gr, .slice ad n c] 28)).alloc (.cells #[.string s, .int .i64 at_, .bool lines, .int .i64 budget] 30)) := ⟨(Row.new rfl).alloc _, Row.new (by simp), hBl, hin.below hBl⟩
  have HL := hid hL
  have HFE := hid (few_any ((w.alloc (.cells #[.int .i64 p.op, .int .u64 p.set.a, .int .u64 p.set.b, .int .u64 p.set.c, .int .u64 p.set.d, .int .i64 p.lo, .int .i64 p.hi, .int .i64 p.gr, .slice ad n c] 28)).alloc (.cells #[.string s, .int .i64 at_, .bool lines, .int .i64 budget] 30)) t _ s at_ budget lines hL.2.2.2 hs)
  have q0 := hL.1.c9
  have q1 := hL.2.1.c4
  clear hin hs hBl hL
  go_enter Try.func5, Try.ntmps5
  go_wp2_with fail
  refine HFE.out.mono ?_
  rintro e w1 ⟨b, rfl, hfw, hb1⟩
  have HL1 := hid (HL.out.later hb1)
  have HFW := hid hfw
  clear hb1 HFE q0 q1 HL hfw
  have q0 := HL1.out.1.c9
  have q1 := HL1.out.2.1.c4
  cases b with
  | false =>
    clear HFW
    go_wp2_with fail
    refine (awakeB_any w1).mono ?_
    rintro e w2 ⟨rfl, hb⟩
    have HB2 := hid (HL1.out.later hb)
    clear hb
    go_wp2_with fail
    go_ret
    exact ⟨rfl, HB2.out.2.2.1⟩
  | true =>
    have hfw := HFW.out rfl
    clear HFW
    go_wp2_with fail
    refine (BSearch_any w1 t _ s at_ lines 20000 20000 HL1.out.2.2.2 hsz (by omega) (by decide) (by omega)).mono ?_
    rintro e w2 ⟨o, k, x, v, ha, rfl, hb2, hf1, hf2⟩
    have hsp := SpB.lst hf1 hf2
    obtain ⟨va, vc, rfl⟩ := hsp.form
    have HL2 := hid ((HL1.out.later hb2).later ((Below.refl _ _).alloc (Nat.le_refl _) (.cells #[.slice va o.lst.length vc] 35)))
    have HSP := hid (hsp.below ((Below.refl _ _).alloc (Nat.le_refl _) (.cells #[.slice va o.lst.length vc] 35)))
    have HA := hid ha
    have HM := hid (Row.new (w := w2) (cs := [.slice va o.lst.length vc]) (T := 35) rfl)
    have hL2 := HL1.out.later hb2
    have q0 := hL2.1.c9
    have q1 := hL2.2.1.c4
    have hz1 := hL2.1.lt
    have hz2 := hL2.2.1.lt
    clear ha hb2 hf1 hf2 hsp hL2 HL1
    by_cases hx : x = 0
    · subst hx
      have hgood := Api.good HA.out
      obtain ⟨k, rfl⟩ : ∃ k' : Nat, k = k' := by obtain ⟨-, -, m, -, -, h⟩ := hgood; exact ⟨_, h⟩
      have hk2 : k ≤ 20000 := by obtain ⟨-, -, m, -, -, h⟩ := hgood; omega
      have hlen := HA.out.len
      have hkp := Api.pos HA.out (fun f hf => by omega)
      clear hgood
      go_wp2_with fail
      refine (BSearch_any _ t _ s at_ lines k k HL2.out.2.2.2 hsz (by omega) (by omega) hk2).mono ?_
      rintro e w3 ⟨o2, k2, x2, v2, ha2, rfl, hb3, hf3, hf4⟩
      obtain ⟨rfl, rfl, rfl⟩ := Api.again HA.out rfl ha2
      have hsp2 := SpB.lst hf3 hf4
      obtain ⟨va2, vc2, rfl⟩ := hsp2.form
      have hal := (Below.refl w3.heap.size w3).alloc (Nat.le_refl _) (.cells #[.slice va2 o2.lst.length vc2] 35)
      have HL3 := hid ((HL2.out.later hb3).later hal)
      have HS3 := hid (⟨(HSP.out.below hb3).below hal, hsp2.below hal⟩ : SpB _ _ _ _ ∧ SpB _ _ _ _)
      have hz := HL2.out.2.2.1.size
      have hM3 := HM.out.below hb3 HM.out.lt
      have HM3 := hid ((hM3.alloc (.cells #[.slice va2 o2.lst.length vc2] 35)))
      have q2 := hM3.cell 0
      have hz3 := hM3.lt
      have hL3 := HL2.out.later hb3
      clear q0 q1
      have q0 := hL3.1.c9
      have q1 := hL3.2.1.c4
      have hy1 := hL3.1.lt
      have hy2 := hL3.2.1.lt
      clear ha2 hb3 hf3 hf4 hsp2 hal hM3 hL3 HL2 HSP HM
      generalize hoi : o2.isFound = fo at *
      have HOI := hid hoi
      clear hoi
      go_wp2_with fail
      refine (sameB_any _ _ _ va va2 vc vc2 o2.lst o2.lst HS3.out.1 HS3.out.2 hlen hlen).mono ?_
      rintro e w4 ⟨rfl, hb4⟩
      have HL4 := hid (HL3.out.later hb4)
      rw [decide_eq_true rfl]
      have q0' := HL4.out.1.c9
      have q1' := HL4.out.2.1.c4
      clear hb4 HS3 HM3 q0 q1 q2
      have hfo : (fo != fo) = false := by simp
      by_cases hbk : (k : Int) ≤ budget
      · go_wp2_with fail
        refine (awakeB_any _).mono ?_
        rintro e w9 ⟨rfl, hb⟩
        have HB9 := hid (HL4.out.later hb)
        clear hb
        go_wp2_with fail
        go_ret
        exact ⟨rfl, HB9.out.2.2.1⟩
      · obtain ⟨B3, hB3⟩ : ∃ B3 : Nat, max budget 0 = (B3 : Int) := ⟨(max budget 0).toNat, by omega⟩
        go_wp2_with fail
        refine (BSearch_any _ t _ s at_ lines budget B3 HL4.out.2.2.2 hsz (by omega) hB3 (by omega)).mono ?_
        rintro e w5 ⟨o3, k3, x3, v3, ha3, rfl, hb5, hf5, hf6⟩
        obtain ⟨rfl, rfl, rfl⟩ := Api.less HA.out (by omega) ha3
        have hv := hf6 rfl
        subst hv
        have HL5 := hid ((HL4.out.later hb5).later ((Below.refl _ _).alloc (Nat.le_refl _) (.cells #[.slice none 0 0] 35)))
        have hL5 := HL4.out.later hb5
        clear q0' q1'
        have q0 := hL5.1.c9
        have q1 := hL5.2.1.c4
        have hy3 := hL5.1.lt
        have hy4 := hL5.2.1.lt
        clear ha3 hb5 hf5 hf6 hL5
        simp only [Out.isFound]
        have HB3 := hid hB3
        clear hB3
        by_cases hneg : budget < 0
        · obtain rfl : B3 = 0 := by have := HB3.out; omega
          have hn0 : ¬ 0 < budget := by omega
          have hn1 : ¬ 0 ≤ budget := by omega
          go_wp2_with fail
          all_goals
            refine (awakeB_any _).mono ?_
            rintro e w9 ⟨rfl, hb⟩
            have HB9 := hid (HL5.out.later hb)
            clear hb
            go_wp2_with fail
            go_ret
            first | exact ⟨rfl, HB9.out.2.2.1⟩ | exact ⟨ret_bool (by simp; omega), HB9.out.2.2.1⟩
        · obtain ⟨bn, rfl⟩ : ∃ bn : Nat, budget = bn := ⟨budget.toNat, by omega⟩
          obtain rfl : B3 = bn := by have := HB3.out; omega
          go_wp2_with fail
          all_goals
            refine (awakeB_any _).mono ?_
            rintro e w9 ⟨rfl, hb⟩
            have HB9 := hid (HL5.out.later hb)
            clear hb
            go_wp2_with fail
            go_ret
            first | exact ⟨rfl, HB9.out.2.2.1⟩ | exact ⟨ret_bool (by simp; omega), HB9.out.2.2.1⟩
    · have hbad := Api.bad HA.out hx
      have hof : o.isFound = false := hbad.1
      rw [hof]
      have hx1 : (x != 0) = true := by simp [hx]
      by_cases hx11 : x = 11
      · have hk := hbad.2 hx11
        subst hx11; subst hk
        clear hbad hof
        go_wp2_with fail
        refine (awakeB_any _).mono ?_
        rintro e w9 ⟨rfl, hb⟩
        have HB9 := hid (HL2.out.later hb)
        clear hb
        go_wp2_with fail
        go_ret
        exact ⟨rfl, HB9.out.2.2.1⟩
      · have hx2 : (x != 11) = true := by simp [hx11]
        clear hbad hof hx hx11
        go_wp2_with fail
        refine (awakeB_any _).mono ?_
        rintro e w9 ⟨rfl, hb⟩
        have HB9 := hid (HL2.out.later hb)
        clear hb
        go_wp2_with fail
        go_ret
        exact ⟨rfl, HB9.out.2.2.1⟩
end Go.Proofs.Ytnnocekencaadaa

/- From what the statement gives of an argument to the tree: what is read as data of the type Re is a tree in the memory. -/
namespace Go.Proofs.Ytnnocekencaadaa
open Go.ChangeShapes Go.WideShapes Go.ChangeAt Go.RowKit
set_option linter.unusedVariables false

theorem laidOutP : laidOutB Try.prog = true := by kernel_rfl
theorem cells_re : Try.prog.cellsOf 28 = 9 := by kernel_rfl
theorem cells_cs : Try.prog.cellsOf 25 = 4 := by kernel_rfl
theorem cells_a4 : Try.prog.cellsOf 23 = 4 := by kernel_rfl
theorem cells_u64 : Try.prog.cellsOf 22 = 1 := by kernel_rfl
theorem cells_int : Try.prog.cellsOf 3 = 1 := by kernel_rfl
theorem cells_sl : Try.prog.cellsOf 26 = 1 := by kernel_rfl

section
variable {H : Type} {enc : TypeId × Value → H} {w : World} {sp : Nat → Bool} {hd : Bool}

theorem open_i64 {fuel : Nat} {cs : List Value} {x : DataW H × List MemPlace} (h : DataW.trod enc Try.prog w 0 sp hd fuel 3 cs = some x) : ∃ n, cs = [.int .i64 n] ∧ I64 n := by
  obtain ⟨n, rfl, rfl, hw⟩ := DataW.trod_int Try.underlying3 h
  refine ⟨n, rfl, ?_⟩
  have e1 : IntKind.i64.min = -9223372036854775808 := rfl
  have e2 : IntKind.i64.max = 9223372036854775807 := rfl
  simpa [Lit.wf, e1, e2, I64] using hw
theorem open_u64 {fuel : Nat} {cs : List Value} {x : DataW H × List MemPlace} (h : DataW.trod enc Try.prog w 0 sp hd fuel 22 cs = some x) : ∃ n : Nat, cs = [.int .u64 n] ∧ W64 n := by
  obtain ⟨n, rfl, rfl, hw⟩ := DataW.trod_int Try.underlying22 h
  have e1 : IntKind.u64.min = 0 := rfl
  have e2 : IntKind.u64.max = 18446744073709551615 := rfl
  have hw2 : 0 ≤ n ∧ n ≤ 18446744073709551615 := by simpa [Lit.wf, e1, e2] using hw
  refine ⟨n.toNat, by rw [Int.toNat_of_nonneg hw2.1], by unfold W64; omega⟩
theorem open_cs {fuel : Nat} {c0 c1 c2 c3 : Value} {x : DataW H × List MemPlace} (h : DataW.trod enc Try.prog w 0 sp hd fuel 25 [c0, c1, c2, c3] = some x) : ∃ s : Cs, s.wf ∧ [c0, c1, c2, c3] = s.cells := by
  obtain ⟨ys, n, _, rfl, hl, hlen, hf⟩ := DataW.trod_struct Try.underlying25 h
  match ys, hlen with
  | [y0], _ =>
    have h0 : DataW.trod enc Try.prog w 0 sp hd n 23 (([c0, c1, c2, c3].drop 0).take (Try.prog.cellsOf 23)) = [y0][0]? := hf 0 _ rfl
    rw [cells_a4] at h0
    simp at h0
    obtain ⟨zs, m, _, rfl, hl2, hlen2, hf2⟩ := DataW.trod_array Try.underlying23 h0
    match zs, hlen2 with
    | [z0, z1, z2, z3], _ =>
      have g0 := hf2 0 (by omega)
      have g1 := hf2 1 (by omega)
      have g2 := hf2 2 (by omega)
      have g3 := hf2 3 (by omega)
      simp only [cells_u64] at g0 g1 g2 g3
      simp at g0 g1 g2 g3
      obtain ⟨a, ha, wa⟩ := open_u64 g0
      obtain ⟨b, hb, wb⟩ := open_u64 g1
      obtain ⟨c, hc, wc⟩ := open_u64 g2
      obtain ⟨d, hd, wd⟩ := open_u64 g3
      injection ha with ha
      injection hb with hb
      injection hc with hc
      injection hd with hd
      subst ha hb hc hd
      exact ⟨⟨a, b, c, d⟩, ⟨wa, wb, wc, wd⟩, rfl⟩

theorem open_kids (a : Addr) : ∀ (elems : List (DataW H × List MemPlace)) (k : Nat), (∀ (i : Nat) (x : DataW H × List MemPlace), elems[i]? = some x → ∃ (t : Re) (cs : List Value), w.cells? 0 (a.add ((k + i) * 9)) 9 = some cs ∧ t.In w cs ∧ t.size ≤ Rows.uptoBulk x.1) → (k = 0 ∨ a.spot = none) →
    ∃ xs : List Re, xs.length = elems.length ∧ Re.AllIn w xs (some a) (k * 9) ∧ Re.sizes xs ≤ Rows.uptoBulkAll (elems.map (·.1))
  | [], k, _, _ => ⟨[], rfl, by simp [Re.AllIn], by simp [Re.sizes, Re.counts, Rows.uptoBulkAll]⟩
  | x :: elems, k, h, hs => by
    obtain ⟨t, cs, hc, hin, hsz⟩ := h 0 x rfl
    obtain ⟨_, hlen, hcell⟩ := World.cells?_some hc
    have hsp : a.spot = none := by
      rcases hs with hs | hs
      · subst hs
        have h0 := hcell 0 (by omega)
        have hx : cs[0]? = some cs[0] := List.getElem?_eq_getElem (by omega)
        rw [hx] at h0
        simpa [Addr.add] using World.cell?_spot h0
      · exact hs
    obtain ⟨xs, hx1, hx2, hx3⟩ := open_kids a elems (k + 1) (fun i y hy => by
      have := h (i + 1) y (by simpa using hy)
      rwa [show k + 1 + i = k + (i + 1) by omega]) (.inr hsp)
    obtain ⟨b, o, spt⟩ := a
    simp only at hsp
    subst hsp
    refine ⟨t :: xs, by simp [hx1], ?_, ?_⟩
    · rw [Re.AllIn]
      refine ⟨⟨b, o, cs, rfl, fun j v hj => ?_, hin⟩, by rw [show k * 9 + 9 = (k + 1) * 9 by omega]; exact hx2⟩
      have hj9 : j < 9 := by
        have := (List.getElem?_eq_some_iff.1 hj).1
        omega
      have := hcell j hj9
      rw [add_plain, Addr.add_lit] at this
      rw [← hj, ← this]
      congr 2
    · have : Re.sizes (t :: xs) = t.size + Re.sizes xs := by simp [Re.sizes, Re.counts, Re.size]
      rw [this]
      simp only [List.map_cons, Rows.uptoBulkAll]
      omega

theorem open_re : ∀ (fuel : Nat) (cs : List Value) (x : DataW H × List MemPlace), DataW.trod enc Try.prog w 0 sp hd fuel 28 cs = some x → ∃ t : Re, t.In w cs ∧ t.size ≤ Rows.uptoBulk x.1 := by
  intro fuel
  induction fuel using Nat.strongRecOn with
  | _ fuel ih =>
    intro cs x h
    obtain ⟨ys, n, hfu, rfl, hl, hlen, hf⟩ := DataW.trod_struct Try.underlying28 h
    rw [cells_re] at hl
    match cs, hl with
    | [c0, c1, c2, c3, c4, c5, c6, c7, c8], _ =>
    match ys, hlen with
    | [y0, y1, y2, y3, y4, y5], _ =>
      have h0 : DataW.trod enc Try.prog w 0 sp hd n 3 (([c0, c1, c2, c3, c4, c5, c6, c7, c8].drop 0).take (Try.prog.cellsOf 3)) = [y0, y1, y2, y3, y4, y5][0]? := hf 0 _ rfl
      rw [cells_int] at h0
      simp at h0
      have h1 : DataW.trod enc Try.prog w 0 sp hd n 25 (([c0, c1, c2, c3, c4, c5, c6, c7, c8].drop 1).take (Try.prog.cellsOf 25)) = [y0, y1, y2, y3, y4, y5][1]? := hf 1 _ rfl
      rw [cells_cs] at h1
      simp at h1
      have h2 : DataW.trod enc Try.prog w 0 sp hd n 3 (([c0, c1, c2, c3, c4, c5, c6, c7, c8].drop 5).take (Try.prog.cellsOf 3)) = [y0, y1, y2, y3, y4, y5][2]? := hf 2 _ rfl
      rw [cells_int] at h2
      simp at h2
      have h3 : DataW.trod enc Try.prog w 0 sp hd n 3 (([c0, c1, c2, c3, c4, c5, c6, c7, c8].drop 6).take (Try.prog.cellsOf 3)) = [y0, y1, y2, y3, y4, y5][3]? := hf 3 _ rfl
      rw [cells_int] at h3
      simp at h3
      have h4 : DataW.trod enc Try.prog w 0 sp hd n 3 (([c0, c1, c2, c3, c4, c5, c6, c7, c8].drop 7).take (Try.prog.cellsOf 3)) = [y0, y1, y2, y3, y4, y5][4]? := hf 4 _ rfl
      rw [cells_int] at h4
      simp at h4
      have h5 : DataW.trod enc Try.prog w 0 sp hd n 26 (([c0, c1, c2, c3, c4, c5, c6, c7, c8].drop 8).take (Try.prog.cellsOf 26)) = [y0, y1, y2, y3, y4, y5][5]? := hf 5 _ rfl
      rw [cells_sl] at h5
      simp at h5
      obtain ⟨op, e0, w0⟩ := open_i64 h0
      obtain ⟨s, ws, es⟩ := open_cs h1
      obtain ⟨lo, e2, w2⟩ := open_i64 h2
      obtain ⟨hi, e3, w3⟩ := open_i64 h3
      obtain ⟨gr, e4, w4⟩ := open_i64 h4
      injection e0 with e0
      injection e2 with e2
      injection e3 with e3
      injection e4 with e4
      subst e0 e2 e3 e4
      unfold Cs.cells at es
      injection es with e10 es
      injection es with e11 es
      injection es with e12 es
      injection es with e13 es
      subst e10 e11 e12 e13
      have hwf : (⟨op, s, lo, hi, gr⟩ : Pay).wf := ⟨w0, ws, w2, w3, w4⟩
      rcases DataW.trod_slice Try.underlying26 h5 with ⟨hcs, hx⟩ | ⟨a, len, cap, elems, rest, m, hm, hcs, hx, hb, hle, hcm, hel, hall, _, _⟩
      · injection hcs with hcs
        subst hcs
        refine ⟨.mk ⟨op, s, lo, hi, gr⟩ [], ?_, ?_⟩
        · rw [Re.In]
          exact ⟨none, 0, rfl, hwf, Nat.le_refl _, Nat.zero_le _, fun _ => rfl, by simp [Re.AllIn]⟩
        · simp [Re.size_mk, Re.sizes, Re.counts, Rows.uptoBulk]
      · injection hcs with hcs
        subst hcs
        rw [cells_re] at hall
        obtain ⟨xs, k1, k2, k3⟩ := open_kids (w := w) a elems 0 (fun i y hy => by
          have hil : i < len := by rw [← hel]; exact (List.getElem?_eq_some_iff.1 hy).1
          have hh := hall i hil
          rw [hy] at hh
          obtain ⟨cs', g1, g2⟩ := Option.bind_eq_some_iff.1 hh
          obtain ⟨t, g3, g4⟩ := ih m (by omega) cs' y g2
          exact ⟨t, cs', by rw [Nat.zero_add]; exact g1, g3, g4⟩) (.inl rfl)
        refine ⟨.mk ⟨op, s, lo, hi, gr⟩ xs, ?_, ?_⟩
        · rw [Re.In]
          refine ⟨some a, cap, ?_, hwf, by rw [k1, hel]; exact hle, hcm, (fun e => by cases e), by simpa using k2⟩
          rw [k1, hel]
          rfl
        · rw [Re.size_mk]
          simp only [Rows.uptoBulk, Rows.uptoBulkAll, hx, List.map_cons, List.map_nil]
          omega

/-- An argument of the type Re: its value is a tree. -/
theorem open_arg {v : Value} {d : DataW H} {ps : List MemPlace} (h : DataW.Trod enc Try.prog w 0 sp hd 28 v d ps) : ∃ (t : Re) (cs : List Value), v = .agg cs.toArray ∧ t.In w cs ∧ t.size ≤ Rows.uptoBulk d := by
  obtain ⟨fuel, hf⟩ := h
  obtain ⟨t, h1, h2⟩ := open_re fuel _ _ hf
  refine ⟨t, v.cells.toList, ?_, h1, h2⟩
  have h9 := h1.nine
  cases v <;> simp [Value.cells] at h9 ⊢
end
end Go.Proofs.Ytnnocekencaadaa

/- From what the statement gives of an argument to a search: a string, an offset, a flag, a budget. -/
namespace Go.Proofs.Ytnnocekencaadaa
open Go.ChangeShapes Go.WideShapes Go.ChangeAt Go.RowKit
set_option linter.unusedVariables false
theorem ownKnobR : ownKnob Try.prog.godebug = none := by kernel_rfl
section
variable {H : Type} {enc : TypeId × Value → H} {w : World} {sp : Nat → Bool} {hd : Bool}
/-- An argument of the type Try. -/
theorem open_try {v : Value} {d : DataW H} {ps : List MemPlace} (h : DataW.Trod enc Try.prog w 0 sp hd 30 v d ps) : ∃ (s : ByteArray) (x y : Int) (b : Bool), v = .agg #[.string s, .int .i64 x, .bool b, .int .i64 y] ∧ s.size ≤ Rows.uptoBulk d ∧ I64 x ∧ I64 y := by
  obtain ⟨fuel, hf⟩ := h
  have hcells : Try.prog.cellsOf 30 = 4 := by kernel_rfl
  have hstr : Try.prog.cellsOf 9 = 1 := by kernel_rfl
  have hint : Try.prog.cellsOf 3 = 1 := by kernel_rfl
  have hbool : Try.prog.cellsOf 4 = 1 := by kernel_rfl
  obtain ⟨ys, n, hfu, hd0, hl, hlen, hf⟩ := DataW.trod_struct Try.underlying30 hf
  rw [hcells] at hl
  match hc : v.cells.toList, hl with
  | [c0, c1, c2, c3], _ =>
  rw [hc] at hf
  match ys, hlen with
  | [y0, y1, y2, y3], _ =>
    have h0 : DataW.trod enc Try.prog w 0 sp hd n 9 (([c0, c1, c2, c3].drop 0).take (Try.prog.cellsOf 9)) = [y0, y1, y2, y3][0]? := hf 0 _ rfl
    have h1 : DataW.trod enc Try.prog w 0 sp hd n 3 (([c0, c1, c2, c3].drop 1).take (Try.prog.cellsOf 3)) = [y0, y1, y2, y3][1]? := hf 1 _ rfl
    have h2 : DataW.trod enc Try.prog w 0 sp hd n 4 (([c0, c1, c2, c3].drop 2).take (Try.prog.cellsOf 4)) = [y0, y1, y2, y3][2]? := hf 2 _ rfl
    have h3 : DataW.trod enc Try.prog w 0 sp hd n 3 (([c0, c1, c2, c3].drop 3).take (Try.prog.cellsOf 3)) = [y0, y1, y2, y3][3]? := hf 3 _ rfl
    rw [hstr] at h0
    rw [hint] at h1 h3
    rw [hbool] at h2
    simp at h0 h1 h2 h3
    obtain ⟨s, e0, hx, -⟩ := DataW.trod_string Try.underlying9 h0
    obtain ⟨x, e1, w1⟩ := open_i64 h1
    obtain ⟨b, e2, -⟩ := DataW.trod_bool Try.underlying4 h2
    obtain ⟨y, e3, w3⟩ := open_i64 h3
    injection e0 with e0
    injection e1 with e1
    injection e2 with e2
    injection e3 with e3
    subst e0 e1 e2 e3
    refine ⟨s, x, y, b, ?_, ?_, w1, w3⟩
    · cases v <;> simp [Value.cells] at hc ⊢
      rename_i arr
      obtain ⟨l⟩ := arr
      simpa using hc
    · simp only [Prod.mk.injEq] at hd0
      rw [hd0.1]
      simp only [Rows.uptoBulk, Rows.uptoBulkAll, List.map_cons]
      rw [hx]
      simp only [Rows.uptoBulk]
      have : s.data.toList.length = s.size := by rw [Array.length_toList]; rfl
      omega
end
end Go.Proofs.Ytnnocekencaadaa
