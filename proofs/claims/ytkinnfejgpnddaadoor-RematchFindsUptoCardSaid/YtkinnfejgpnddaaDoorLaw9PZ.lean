/- The laws of layer 9: RematchParses. -/
import Derived.Test.YtkinnfejgpnddaaDoorH27
namespace Go.Proofs.YtkinnfejgpnddaaDoor
open Go.RowKit
attribute [local go_sem] gives givesUpon

/-- What a law leaves. -/
def LawPost (w : World) (e : Ending) (w' : World) : Prop := e = .returned (.bool true) ∧ Below w.heap.size w w'
/-- The parameters of a law, in memory. -/
def LawAt (w : World) (t : Re) (cs CXL : List Value) (x : World) : Prop := Row x w.heap.size cs 28 ∧ Row x (w.heap.size + 1) CXL 30 ∧ Below w.heap.size w x ∧ t.In x cs ∧ Tabs9 x
theorem LawAt.later {w : World} {t : Re} {cs CXL : List Value} {x y : World} (h : LawAt w t cs CXL x) (hb : Below x.heap.size x y) : LawAt w t cs CXL y :=
  ⟨h.1.below hb h.1.lt, h.2.1.below hb h.2.1.lt, h.2.2.1.trans (hb.mono h.2.2.1.size), h.2.2.2.1.below hb, h.2.2.2.2.on hb⟩
theorem parsesR_len {t : Re} {s : ByteArray} {at_ : Int} {lines : Bool} : (parsesR t s at_ lines).1.length ≤ 4096 := by
  have hsl : s.data.toList.length = s.size := by rw [Array.length_toList]; rfl
  unfold parsesR
  by_cases h : chk t s at_ ≠ 0
  · rw [if_pos h]; simp
  · rw [if_neg h]
    have h0 : chk t s at_ = 0 := Classical.byContradiction h
    obtain ⟨h1, h2, h3⟩ := chk_zero h0
    obtain ⟨ok, hg, -⟩ := Re.ok_err h1
    cases hp : parses s.data.toList lines t at_.toNat (unsetAll t.groups) with
    | none => simp
    | some l => exact parses_len ok (by rw [hsl]; omega) (by rw [hsl]; exact unsetAll_ok _ _) hp
theorem parsesR_sp {t : Re} {s : ByteArray} {at_ : Int} {lines : Bool} : ∀ q, q ∈ (parsesR t s at_ lines).1 → q.2.length ≤ 9 := fun q hq => by
  have hok := (parsesR_ok (t := t) (s := s) (at_ := at_) (lines := lines))
  have h1 := (hok.1 q hq).2.2.1
  have h2 := (Re.ok_err (chk_zero (hok.2 (fun e => by rw [e] at hq; cases hq)).1).1).2.1
  omega
set_option maxRecDepth 100000 in
set_option maxHeartbeats 16000000 in
theorem LawParses9_any (w : World) (t : Re) (cs : List Value) (s : ByteArray) (at_ : Int) (lines : Bool) (hin : t.In w cs) (ht : Tabs9 w) :
    Calls Tryd.prog 3 #[.agg cs.toArray, .agg #[.string s, .int .i64 at_, .bool lines]] w (LawPost w) := by
  obtain ⟨p, ad, m, c, rfl⟩ := Re.cells_shape hin
  have hb2 : Below w.heap.size w ((w.alloc (.cells #[.int .i64 p.op, .int .u64 p.set.a, .int .u64 p.set.b, .int .u64 p.set.c, .int .u64 p.set.d, .int .i64 p.lo, .int .i64 p.hi, .int .i64 p.gr, .slice ad m c] 28)).alloc (.cells #[.string s, .int .i64 at_, .bool lines] 30)) := ((Below.refl _ _).alloc (Nat.le_refl _) _).alloc (by simp) _
  have hL : LawAt w t [.int .i64 p.op, .int .u64 p.set.a, .int .u64 p.set.b, .int .u64 p.set.c, .int .u64 p.set.d, .int .i64 p.lo, .int .i64 p.hi, .int .i64 p.gr, .slice ad m c] [.string s, .int .i64 at_, .bool lines] ((w.alloc (.cells #[.int .i64 p.op, .int .u64 p.set.a, .int .u64 p.set.b, .int .u64 p.set.c, .int .u64 p.set.d, .int .i64 p.lo, .int .i64 p.hi, .int .i64 p.gr, .slice ad m c] 28)).alloc (.cells #[.string s, .int .i64 at_, .bool lines] 30)) := ⟨(Row.new rfl).alloc _, Row.new (by simp), hb2, hin.below hb2, ht.on hb2⟩
  have HL := hid hL
  have HFEW := hid (few9_any ((w.alloc (.cells #[.int .i64 p.op, .int .u64 p.set.a, .int .u64 p.set.b, .int .u64 p.set.c, .int .u64 p.set.d, .int .i64 p.lo, .int .i64 p.hi, .int .i64 p.gr, .slice ad m c] 28)).alloc (.cells #[.string s, .int .i64 at_, .bool lines] 30)) t [.int .i64 p.op, .int .u64 p.set.a, .int .u64 p.set.b, .int .u64 p.set.c, .int .u64 p.set.d, .int .i64 p.lo, .int .i64 p.hi, .int .i64 p.gr, .slice ad m c] s hL.2.2.2.1)
  have q0 := hL.1.c9
  have q1 := hL.2.1.three9
  clear hb2 hL hin ht
  go_enter Tryd.func3, Tryd.ntmps3
  go_wp2_with fail
  refine HFEW.out.mono ?_
  rintro e w1 ⟨b, rfl, hbt, hb⟩
  have HL1 := hid (HL.out.later hb)
  have HBT := hid hbt
  clear hb hbt q0 q1 HL HFEW
  have q0 := HL1.out.1.c9
  have q1 := HL1.out.2.1.three9
  cases b with
  | false =>
    have HAW := hid (awake9_any w1 HL1.out.2.2.2.2)
    go_wp2_with fail
    refine HAW.out.mono ?_
    rintro e w2 ⟨rfl, hb⟩
    have HB := hid (HL1.out.2.2.1.trans (hb.mono HL1.out.2.2.1.size))
    clear hb q0 q1
    go_wp2_with fail
    go_ret
    exact ⟨rfl, HB.out⟩
  | true =>
    have hsz := (HBT.out (by simp)).1
    have hs := (HBT.out (by simp)).2
    obtain ⟨⟨l, x⟩, hr⟩ : ∃ r, r = parsesR t s at_ lines := ⟨_, rfl⟩
    have hp1 := PParses_any w1 t [.int .i64 p.op, .int .u64 p.set.a, .int .u64 p.set.b, .int .u64 p.set.c, .int .u64 p.set.d, .int .i64 p.lo, .int .i64 p.hi, .int .i64 p.gr, .slice ad m c] s at_ lines HL1.out.2.2.2.1 (by omega) (by omega) HL1.out.2.2.2.2
    have hll := (parsesR_len (t := t) (s := s) (at_ := at_) (lines := lines))
    have hsp := (parsesR_sp (t := t) (s := s) (at_ := at_) (lines := lines))
    rw [← hr] at hp1 hll hsp
    have HRR := hid hr
    have HP1 := hid hp1
    have HLL := hid hll
    have HSPN := hid hsp
    clear hp1 hll hsp hr
    go_wp2_with fail
    refine HP1.out.mono ?_
    rintro e w2 ⟨a2, c2, rfl, hb, hps⟩
    have HL2 := hid (HL1.out.later hb)
    have HPS := hid hps
    clear hb hps q0 q1 HP1
    have q0 := HL2.out.1.c9
    have q1 := HL2.out.2.1.three9
    have hp2 := RParses_any w2 t [.int .i64 p.op, .int .u64 p.set.a, .int .u64 p.set.b, .int .u64 p.set.c, .int .u64 p.set.d, .int .i64 p.lo, .int .i64 p.hi, .int .i64 p.gr, .slice ad m c] s at_ lines HL2.out.2.2.2.1 (by omega) (by omega)
    rw [← HRR.out] at hp2
    have HP2 := hid hp2
    clear hp2
    go_wp2_with fail
    refine HP2.out.mono ?_
    rintro e w3 ⟨a3, c3, rfl, hb, hps⟩
    have HL3 := hid (HL2.out.later hb)
    have HPS3 := hid (⟨HPS.out.below hb, hps⟩ : _ ∧ _)
    clear hb hps q0 q1 HP2 HPS
    have HSM := hid (SameParses_eq w3 _ _ l _ _ HPS3.out.1 HPS3.out.2 (Nat.le_trans HLL.out (by decide)) HSPN.out)
    dsimp only
    go_wp2_with fail
    refine HSM.out.mono ?_
    rintro e w4 ⟨rfl, hb⟩
    have HL4 := hid (HL3.out.later hb)
    have HAW := hid (awake9_any w4 HL4.out.2.2.2.2)
    clear hb
    go_wp2_with fail
    refine HAW.out.mono ?_
    rintro e w5 ⟨rfl, hb⟩
    have HB := hid (HL4.out.2.2.1.trans (hb.mono HL4.out.2.2.1.size))
    clear hb
    go_wp2_with fail
    go_ret
    exact ⟨rfl, HB.out⟩
end Go.Proofs.YtkinnfejgpnddaaDoor
