/- The laws of layer 9: RematchDoubles. -/
import Derived.Test.YtkinnfejgpnddaaDoorK19
import Derived.Test.YtkinnfejgpnddaaDoorK21
import Derived.Test.YtkinnfejgpnddaaDoorK22
import Derived.Test.YtkinnfejgpnddaaDoorK18
namespace Go.Proofs.YtkinnfejgpnddaaDoor
open Go.RowKit
attribute [local go_sem] gives givesUpon

/-- The tree of a law, in memory. -/
def TreeAt (w : World) (t : Re) (cs : List Value) (x : World) : Prop := Row x w.heap.size cs 28 ∧ Below w.heap.size w x ∧ t.In x cs ∧ Tabs9 x
theorem TreeAt.later {w : World} {t : Re} {cs : List Value} {x y : World} (h : TreeAt w t cs x) (hb : Below x.heap.size x y) : TreeAt w t cs y :=
  ⟨h.1.below hb h.1.lt, h.2.1.trans (hb.mono h.2.1.size), h.2.2.1.below hb, h.2.2.2.on hb⟩
theorem backT_in (w : World) : backT.In w [.int .i64 9, .int .u64 0, .int .u64 0, .int .u64 0, .int .u64 0, .int .i64 0, .int .i64 0, .int .i64 1, .slice none 0 0] := by
  unfold backT
  rw [Re.In]
  exact ⟨none, 0, rfl, ⟨by unfold I64; dsimp only; omega, Cs.none_wf, by unfold I64; dsimp only; omega, by unfold I64; dsimp only; omega, by unfold I64; dsimp only; omega⟩, Nat.le_refl _, by unfold maxLen; omega, fun _ => rfl, by rw [Re.AllIn]; trivial⟩
set_option maxRecDepth 100000 in
set_option maxHeartbeats 16000000 in
theorem LawDoubles9_any (w : World) (t : Re) (cs : List Value) (s : ByteArray) (hin : t.In w cs) (ht : Tabs9 w) :
    Calls Tryd.prog 9 #[.agg cs.toArray, .string s] w (LawPost w) := by
  obtain ⟨p, ad, m, c, rfl⟩ := Re.cells_shape hin
  have hb2 : Below w.heap.size w (w.alloc (.cells #[.int .i64 p.op, .int .u64 p.set.a, .int .u64 p.set.b, .int .u64 p.set.c, .int .u64 p.set.d, .int .i64 p.lo, .int .i64 p.hi, .int .i64 p.gr, .slice ad m c] 28)) := (Below.refl _ _).alloc (Nat.le_refl _) _
  have hL : TreeAt w t [.int .i64 p.op, .int .u64 p.set.a, .int .u64 p.set.b, .int .u64 p.set.c, .int .u64 p.set.d, .int .i64 p.lo, .int .i64 p.hi, .int .i64 p.gr, .slice ad m c] (w.alloc (.cells #[.int .i64 p.op, .int .u64 p.set.a, .int .u64 p.set.b, .int .u64 p.set.c, .int .u64 p.set.d, .int .i64 p.lo, .int .i64 p.hi, .int .i64 p.gr, .slice ad m c] 28)) := ⟨Row.new rfl, hb2, hin.below hb2, ht.on hb2⟩
  have HL := hid hL
  clear hb2 hL hin ht
  have HSM := hid (fun (x : World) (hx : TreeAt w t [.int .i64 p.op, .int .u64 p.set.a, .int .u64 p.set.b, .int .u64 p.set.c, .int .u64 p.set.d, .int .i64 p.lo, .int .i64 p.hi, .int .i64 p.gr, .slice ad m c] x) => SmallB_any x t [.int .i64 p.op, .int .u64 p.set.a, .int .u64 p.set.b, .int .u64 p.set.c, .int .u64 p.set.d, .int .i64 p.lo, .int .i64 p.hi, .int .i64 p.gr, .slice ad m c] 8 hx.2.2.1 (by omega))
  have HAW : Hid (∀ x, TreeAt w t [.int .i64 p.op, .int .u64 p.set.a, .int .u64 p.set.b, .int .u64 p.set.c, .int .u64 p.set.d, .int .i64 p.lo, .int .i64 p.hi, .int .i64 p.gr, .slice ad m c] x → Calls Tryd.prog 11 #[] x (LawPost w)) := fun x hx => (awake9_any x hx.2.2.2).mono fun e w' h => ⟨h.1, hx.2.1.trans (h.2.mono hx.2.1.size)⟩
  have q0 := HL.out.1.c9
  cases hsmall : t.small 8 with
  | false =>
    rw [hsmall] at HSM
    clear hsmall
    go_enter Tryd.func9, Tryd.ntmps9
    go_wp2_with fail
    refine (HSM.out _ HL.out).mono ?_
    rintro e w1 ⟨rfl, hb⟩
    have HL1 := hid (HL.out.later hb)
    clear hb q0
    go_wp2_with fail
    refine (HAW.out _ HL1.out).mono ?_
    rintro e w9 ⟨rfl, hb⟩
    have HB := hid hb
    clear hb
    go_wp2_with fail
    go_ret
    exact ⟨rfl, HB.out⟩
  | true =>
  rw [hsmall] at HSM
  have hsz := Re.small_size hsmall
  have HSZ := hid hsz
  clear hsmall
  by_cases hs : s.size ≤ 6
  case neg =>
    have hsI : (6 : Int) < s.size := by omega
    go_enter Tryd.func9, Tryd.ntmps9
    go_wp2_with fail
    refine (HSM.out _ HL.out).mono ?_
    rintro e w1 ⟨rfl, hb⟩
    have HL1 := hid (HL.out.later hb)
    clear hb q0
    go_wp2_with fail
    refine (HAW.out _ HL1.out).mono ?_
    rintro e w9 ⟨rfl, hb⟩
    have HB := hid hb
    clear hb
    go_wp2_with fail
    go_ret
    exact ⟨rfl, HB.out⟩
  have hsI : ¬ (6 : Int) < s.size := by omega
  go_enter Tryd.func9, Tryd.ntmps9
  go_wp2_with fail
  refine (HSM.out _ HL.out).mono ?_
  rintro e w1 ⟨rfl, hb⟩
  have HL1 := hid (HL.out.later hb)
  clear hb q0 HSM
  have q0 := HL1.out.1.c9
  have HCK := hid (CheckRef_any t w1 [.int .i64 p.op, .int .u64 p.set.a, .int .u64 p.set.b, .int .u64 p.set.c, .int .u64 p.set.d, .int .i64 p.lo, .int .i64 p.hi, .int .i64 p.gr, .slice ad m c] HL1.out.2.2.1 (by have := HSZ.out; omega))
  by_cases he : t.err = 0
  case neg =>
    have heb : (t.err != 0) = true := by simpa using he
    clear he
    go_wp2_with fail
    refine HCK.out.mono ?_
    rintro e w2 ⟨rfl, hb⟩
    have HL2 := hid (HL1.out.later hb)
    clear hb q0
    go_wp2_with fail
    refine (HAW.out _ HL2.out).mono ?_
    rintro e w9 ⟨rfl, hb⟩
    have HB := hid hb
    clear hb
    go_wp2_with fail
    go_ret
    exact ⟨rfl, HB.out⟩
  rw [he] at HCK
  go_wp2_with fail
  refine HCK.out.mono ?_
  rintro e w2 ⟨rfl, hb⟩
  have HL2 := hid (HL1.out.later hb)
  clear hb q0 HCK
  have q0 := HL2.out.1.c9
  have HGR := hid (GroupsRef_any t w2 [.int .i64 p.op, .int .u64 p.set.a, .int .u64 p.set.b, .int .u64 p.set.c, .int .u64 p.set.d, .int .i64 p.lo, .int .i64 p.hi, .int .i64 p.gr, .slice ad m c] HL2.out.2.2.1 (by have := HSZ.out; omega))
  obtain ⟨g, hg⟩ : ∃ g, g = t.groups := ⟨_, rfl⟩
  rw [← hg] at HGR
  by_cases hg0 : g = 0
  case neg =>
    have hgI : (0 : Int) < g := by omega
    clear hg
    go_wp2_with fail
    refine HGR.out.mono ?_
    rintro e w3 ⟨rfl, hb⟩
    have HL3 := hid (HL2.out.later hb)
    clear hb q0
    go_wp2_with fail
    refine (HAW.out _ HL3.out).mono ?_
    rintro e w9 ⟨rfl, hb⟩
    have HB := hid hb
    clear hb
    go_wp2_with fail
    go_ret
    exact ⟨rfl, HB.out⟩
  subst hg0
  have HG0 := hid hg
  have HE0 := hid he
  clear hg he
  go_wp2_with fail
  refine HGR.out.mono ?_
  rintro e w3 ⟨rfl, hb⟩
  have HL3 := hid (HL2.out.later hb)
  clear hb q0 HGR
  have q0 := HL3.out.1.c9
  have HAN := hid (anchored9_any w3 t w3 [.int .i64 p.op, .int .u64 p.set.a, .int .u64 p.set.b, .int .u64 p.set.c, .int .u64 p.set.d, .int .i64 p.lo, .int .i64 p.hi, .int .i64 p.gr, .slice ad m c] HL3.out.2.2.1 (Below.refl _ _))
  cases ha7 : t.anch 7 with
  | true =>
    rw [ha7] at HAN
    clear ha7
    go_wp2_with fail
    refine HAN.out.mono ?_
    rintro e w4 ⟨rfl, hb⟩
    have HL4 := hid (HL3.out.later hb)
    clear hb q0
    go_wp2_with fail
    refine (HAW.out _ HL4.out).mono ?_
    rintro e w9 ⟨rfl, hb⟩
    have HB := hid hb
    clear hb
    go_wp2_with fail
    go_ret
    exact ⟨rfl, HB.out⟩
  | false =>
  rw [ha7] at HAN
  go_wp2_with fail
  refine HAN.out.mono ?_
  rintro e w4 ⟨rfl, hb⟩
  have HL4 := hid (HL3.out.later hb)
  clear hb q0 HAN
  have q0 := HL4.out.1.c9
  have HCL := hid (closing9_any w4 t w4 [.int .i64 p.op, .int .u64 p.set.a, .int .u64 p.set.b, .int .u64 p.set.c, .int .u64 p.set.d, .int .i64 p.lo, .int .i64 p.hi, .int .i64 p.gr, .slice ad m c] HL4.out.2.2.1 (Below.refl _ _))
  cases ha8 : t.anch 8 with
  | true =>
    rw [ha8] at HCL
    clear ha8
    go_wp2_with fail
    refine HCL.out.mono ?_
    rintro e w5 ⟨rfl, hb⟩
    have HL5 := hid (HL4.out.later hb)
    clear hb q0
    go_wp2_with fail
    refine (HAW.out _ HL5.out).mono ?_
    rintro e w9 ⟨rfl, hb⟩
    have HB := hid hb
    clear hb
    go_wp2_with fail
    go_ret
    exact ⟨rfl, HB.out⟩
  | false =>
  rw [ha8] at HCL
  have HLAW := hid (doubles_law (t := s) HE0.out HG0.out.symm (by have := HSZ.out; omega) ha7 ha8 hs)
  have HTW := hid (twice_ok HE0.out HG0.out.symm (by have := HSZ.out; omega))
  clear ha7 ha8
  go_wp2_with fail
  refine HCL.out.mono ?_
  rintro e w5 ⟨rfl, hb⟩
  have HL5 := hid (HL4.out.later hb)
  clear hb q0 HCL
  have q0 := HL5.out.1.c9
  obtain ⟨⟨l, x⟩, hr⟩ : ∃ r, r = parsesR t s 0 false := ⟨_, rfl⟩
  have hpp := PParses_any w5 t [.int .i64 p.op, .int .u64 p.set.a, .int .u64 p.set.b, .int .u64 p.set.c, .int .u64 p.set.d, .int .i64 p.lo, .int .i64 p.hi, .int .i64 p.gr, .slice ad m c] s 0 false HL5.out.2.2.1 (by have := HSZ.out; omega) (by omega) HL5.out.2.2.2
  rw [← hr] at hpp
  have HPP := hid hpp
  have hlaw := HLAW.out
  rw [← hr] at hlaw
  obtain ⟨rfl, hm0, hiff⟩ := hlaw
  have HIFF := hid (⟨hm0, hiff⟩ : _ ∧ _)
  have hll := parsesR_len (t := t) (s := s) (at_ := 0) (lines := false)
  rw [← hr] at hll
  have HLL := hid hll
  clear hpp hr hm0 hiff hll HLAW
  go_wp2_with fail
  refine HPP.out.mono ?_
  rintro e w6 ⟨a6, c6, rfl, hb, hps⟩
  dsimp only at hps ⊢
  have HL6 := hid (HL5.out.later hb)
  have HPS := hid hps
  clear hb hps q0 HPP
  have q0 := HL6.out.1.c9
  have hX : Below w6.heap.size w6 ((w6.alloc (.cells #[.int .i64 p.op, .int .u64 p.set.a, .int .u64 p.set.b, .int .u64 p.set.c, .int .u64 p.set.d, .int .i64 p.lo, .int .i64 p.hi, .int .i64 p.gr, .slice ad m c] 28)).alloc (.cells #[.int .i64 6, .int .u64 0, .int .u64 0, .int .u64 0, .int .u64 0, .int .i64 0, .int .i64 0, .int .i64 1, .slice (some ⟨w6.heap.size, 0, none⟩) 1 1, .int .i64 9, .int .u64 0, .int .u64 0, .int .u64 0, .int .u64 0, .int .i64 0, .int .i64 0, .int .i64 1, .slice none 0 0] 28)) := ((Below.refl _ _).alloc (Nat.le_refl _) _).alloc (by simp) _
  have r1 : Row ((w6.alloc (.cells #[.int .i64 p.op, .int .u64 p.set.a, .int .u64 p.set.b, .int .u64 p.set.c, .int .u64 p.set.d, .int .i64 p.lo, .int .i64 p.hi, .int .i64 p.gr, .slice ad m c] 28)).alloc (.cells #[.int .i64 6, .int .u64 0, .int .u64 0, .int .u64 0, .int .u64 0, .int .i64 0, .int .i64 0, .int .i64 1, .slice (some ⟨w6.heap.size, 0, none⟩) 1 1, .int .i64 9, .int .u64 0, .int .u64 0, .int .u64 0, .int .u64 0, .int .i64 0, .int .i64 0, .int .i64 1, .slice none 0 0] 28)) w6.heap.size [.int .i64 p.op, .int .u64 p.set.a, .int .u64 p.set.b, .int .u64 p.set.c, .int .u64 p.set.d, .int .i64 p.lo, .int .i64 p.hi, .int .i64 p.gr, .slice ad m c] 28 := (Row.new rfl).alloc _
  have r2 : Row ((w6.alloc (.cells #[.int .i64 p.op, .int .u64 p.set.a, .int .u64 p.set.b, .int .u64 p.set.c, .int .u64 p.set.d, .int .i64 p.lo, .int .i64 p.hi, .int .i64 p.gr, .slice ad m c] 28)).alloc (.cells #[.int .i64 6, .int .u64 0, .int .u64 0, .int .u64 0, .int .u64 0, .int .i64 0, .int .i64 0, .int .i64 1, .slice (some ⟨w6.heap.size, 0, none⟩) 1 1, .int .i64 9, .int .u64 0, .int .u64 0, .int .u64 0, .int .u64 0, .int .i64 0, .int .i64 0, .int .i64 1, .slice none 0 0] 28)) (w6.heap.size + 1) [.int .i64 6, .int .u64 0, .int .u64 0, .int .u64 0, .int .u64 0, .int .i64 0, .int .i64 0, .int .i64 1, .slice (some ⟨w6.heap.size, 0, none⟩) 1 1, .int .i64 9, .int .u64 0, .int .u64 0, .int .u64 0, .int .u64 0, .int .i64 0, .int .i64 0, .int .i64 1, .slice none 0 0] 28 := Row.new (by simp)
  have I1 : (nodeT 6 1 [t]).In ((w6.alloc (.cells #[.int .i64 p.op, .int .u64 p.set.a, .int .u64 p.set.b, .int .u64 p.set.c, .int .u64 p.set.d, .int .i64 p.lo, .int .i64 p.hi, .int .i64 p.gr, .slice ad m c] 28)).alloc (.cells #[.int .i64 6, .int .u64 0, .int .u64 0, .int .u64 0, .int .u64 0, .int .i64 0, .int .i64 0, .int .i64 1, .slice (some ⟨w6.heap.size, 0, none⟩) 1 1, .int .i64 9, .int .u64 0, .int .u64 0, .int .u64 0, .int .u64 0, .int .i64 0, .int .i64 0, .int .i64 1, .slice none 0 0] 28)) [.int .i64 6, .int .u64 0, .int .u64 0, .int .u64 0, .int .u64 0, .int .i64 0, .int .i64 0, .int .i64 1, .slice (some ⟨w6.heap.size, 0, none⟩) 1 1] := node_in (w := ((w6.alloc (.cells #[.int .i64 p.op, .int .u64 p.set.a, .int .u64 p.set.b, .int .u64 p.set.c, .int .u64 p.set.d, .int .i64 p.lo, .int .i64 p.hi, .int .i64 p.gr, .slice ad m c] 28)).alloc (.cells #[.int .i64 6, .int .u64 0, .int .u64 0, .int .u64 0, .int .u64 0, .int .i64 0, .int .i64 0, .int .i64 1, .slice (some ⟨w6.heap.size, 0, none⟩) 1 1, .int .i64 9, .int .u64 0, .int .u64 0, .int .u64 0, .int .u64 0, .int .i64 0, .int .i64 0, .int .i64 1, .slice none 0 0] 28))) (b := w6.heap.size) (T := 28) 6 1 (by unfold I64; omega) (by unfold I64; omega) [(t, [.int .i64 p.op, .int .u64 p.set.a, .int .u64 p.set.b, .int .u64 p.set.c, .int .u64 p.set.d, .int .i64 p.lo, .int .i64 p.hi, .int .i64 p.gr, .slice ad m c])] (by simpa using r1) (by simp) (fun e he => by simp at he; subst he; exact HL6.out.2.2.1.below hX)
  have I2 : (twiceT t).In ((w6.alloc (.cells #[.int .i64 p.op, .int .u64 p.set.a, .int .u64 p.set.b, .int .u64 p.set.c, .int .u64 p.set.d, .int .i64 p.lo, .int .i64 p.hi, .int .i64 p.gr, .slice ad m c] 28)).alloc (.cells #[.int .i64 6, .int .u64 0, .int .u64 0, .int .u64 0, .int .u64 0, .int .i64 0, .int .i64 0, .int .i64 1, .slice (some ⟨w6.heap.size, 0, none⟩) 1 1, .int .i64 9, .int .u64 0, .int .u64 0, .int .u64 0, .int .u64 0, .int .i64 0, .int .i64 0, .int .i64 1, .slice none 0 0] 28)) [.int .i64 3, .int .u64 0, .int .u64 0, .int .u64 0, .int .u64 0, .int .i64 0, .int .i64 0, .int .i64 0, .slice (some ⟨w6.heap.size + 1, 0, none⟩) 2 2] := node_in (w := ((w6.alloc (.cells #[.int .i64 p.op, .int .u64 p.set.a, .int .u64 p.set.b, .int .u64 p.set.c, .int .u64 p.set.d, .int .i64 p.lo, .int .i64 p.hi, .int .i64 p.gr, .slice ad m c] 28)).alloc (.cells #[.int .i64 6, .int .u64 0, .int .u64 0, .int .u64 0, .int .u64 0, .int .i64 0, .int .i64 0, .int .i64 1, .slice (some ⟨w6.heap.size, 0, none⟩) 1 1, .int .i64 9, .int .u64 0, .int .u64 0, .int .u64 0, .int .u64 0, .int .i64 0, .int .i64 0, .int .i64 1, .slice none 0 0] 28))) (b := w6.heap.size + 1) (T := 28) 3 0 (by unfold I64; omega) (by unfold I64; omega) [(nodeT 6 1 [t], [.int .i64 6, .int .u64 0, .int .u64 0, .int .u64 0, .int .u64 0, .int .i64 0, .int .i64 0, .int .i64 1, .slice (some ⟨w6.heap.size, 0, none⟩) 1 1]), (backT, [.int .i64 9, .int .u64 0, .int .u64 0, .int .u64 0, .int .u64 0, .int .i64 0, .int .i64 0, .int .i64 1, .slice none 0 0])] (by simpa using r2) (by simp) (fun e he => by
    simp at he
    rcases he with rfl | rfl
    · exact I1
    · exact backT_in _)
  have HX := hid (⟨hX, I2⟩ : _ ∧ _)
  clear hX r1 r2 I1 I2
  go_wp2_with fail
  refine (Node_any _ _ _ _ _).mono ?_
  rintro e w7 ⟨rfl, hb⟩
  go_upto_region 5 with fail
  have hb7 : Below w6.heap.size w6 (w7.alloc (.cells #[.int .i64 3, .int .u64 0, .int .u64 0, .int .u64 0, .int .u64 0, .int .i64 0, .int .i64 0, .int .i64 0, .slice (some ⟨w6.heap.size + 1, 0, none⟩) 2 2] 28)) := (HX.out.1.trans (hb.mono HX.out.1.size)).alloc (HX.out.1.trans (hb.mono HX.out.1.size)).size _
  have HT8 := hid (⟨HL6.out.later hb7, (Row.new rfl : Row (w7.alloc (.cells #[.int .i64 3, .int .u64 0, .int .u64 0, .int .u64 0, .int .u64 0, .int .i64 0, .int .i64 0, .int .i64 0, .slice (some ⟨w6.heap.size + 1, 0, none⟩) 2 2] 28)) w7.heap.size [.int .i64 3, .int .u64 0, .int .u64 0, .int .u64 0, .int .u64 0, .int .i64 0, .int .i64 0, .int .i64 0, .slice (some ⟨w6.heap.size + 1, 0, none⟩) 2 2] 28), (HX.out.2.below hb).below ((Below.refl _ _).alloc (Nat.le_refl _) _), HPS.out.below hb7⟩ : TreeAt w t [.int .i64 p.op, .int .u64 p.set.a, .int .u64 p.set.b, .int .u64 p.set.c, .int .u64 p.set.d, .int .i64 p.lo, .int .i64 p.hi, .int .i64 p.gr, .slice ad m c] (w7.alloc (.cells #[.int .i64 3, .int .u64 0, .int .u64 0, .int .u64 0, .int .u64 0, .int .i64 0, .int .i64 0, .int .i64 0, .slice (some ⟨w6.heap.size + 1, 0, none⟩) 2 2] 28)) ∧ Row (w7.alloc (.cells #[.int .i64 3, .int .u64 0, .int .u64 0, .int .u64 0, .int .u64 0, .int .i64 0, .int .i64 0, .int .i64 0, .slice (some ⟨w6.heap.size + 1, 0, none⟩) 2 2] 28)) w7.heap.size [.int .i64 3, .int .u64 0, .int .u64 0, .int .u64 0, .int .u64 0, .int .i64 0, .int .i64 0, .int .i64 0, .slice (some ⟨w6.heap.size + 1, 0, none⟩) 2 2] 28 ∧ (twiceT t).In (w7.alloc (.cells #[.int .i64 3, .int .u64 0, .int .u64 0, .int .u64 0, .int .u64 0, .int .i64 0, .int .i64 0, .int .i64 0, .slice (some ⟨w6.heap.size + 1, 0, none⟩) 2 2] 28)) [.int .i64 3, .int .u64 0, .int .u64 0, .int .u64 0, .int .u64 0, .int .i64 0, .int .i64 0, .int .i64 0, .slice (some ⟨w6.heap.size + 1, 0, none⟩) 2 2] ∧ PsQ _ (w7.alloc (.cells #[.int .i64 3, .int .u64 0, .int .u64 0, .int .u64 0, .int .u64 0, .int .i64 0, .int .i64 0, .int .i64 0, .slice (some ⟨w6.heap.size + 1, 0, none⟩) 2 2] 28)) _ _)
  clear hb hb7
  generalize w7.alloc (.cells #[.int .i64 3, .int .u64 0, .int .u64 0, .int .u64 0, .int .u64 0, .int .i64 0, .int .i64 0, .int .i64 0, .slice (some ⟨w6.heap.size + 1, 0, none⟩) 2 2] 28) = w8 at HT8 ⊢
  generalize w7.heap.size = b8 at HT8 ⊢
  clear q0
  have q0 := HT8.out.2.1.c9
  have hss : (s ++ s).size ≤ 12 := by
    have hsl : ∀ x : ByteArray, x.data.toList.length = x.size := fun x => by rw [Array.length_toList]; rfl
    rw [← hsl, ByteArray.data_append, Array.toList_append, List.length_append, hsl]; omega
  obtain ⟨⟨l2, x2⟩, hr2⟩ : ∃ r, r = parsesR (twiceT t) (s ++ s) 0 false := ⟨_, rfl⟩
  have hpp2 := PParses_any w8 (twiceT t) [.int .i64 3, .int .u64 0, .int .u64 0, .int .u64 0, .int .u64 0, .int .i64 0, .int .i64 0, .int .i64 0, .slice (some ⟨w6.heap.size + 1, 0, none⟩) 2 2] (s ++ s) 0 false HT8.out.2.2.1 (by have := HTW.out.2.2; omega) (by omega) HT8.out.1.2.2.2
  rw [← hr2] at hpp2
  have HPP2 := hid hpp2
  have hif := HIFF.out
  rw [← hr2] at hif
  obtain ⟨rfl, hiff⟩ := hif
  have hll2 := parsesR_len (t := twiceT t) (s := s ++ s) (at_ := 0) (lines := false)
  rw [← hr2] at hll2
  have HLL2 := hid hll2
  obtain ⟨d, hd⟩ : ∃ d, d = decide (s.size ∈ l.map Prod.fst) := ⟨_, rfl⟩
  have HD := hid hd
  have HD2 : Hid (d = decide (2 * s.size ∈ l2.map Prod.fst)) := by show d = _; rw [hd, decide_eq_decide]; exact hiff
  clear hpp2 hr2 hiff hll2 hss HIFF HX hd
  go_wp2_with fail
  refine HPP2.out.mono ?_
  rintro e w9 ⟨a9, c9, rfl, hb, hps⟩
  dsimp only at hps ⊢
  have HL9 := hid (⟨HT8.out.1.later hb, HT8.out.2.2.2.below hb, hps⟩ : TreeAt w t [.int .i64 p.op, .int .u64 p.set.a, .int .u64 p.set.b, .int .u64 p.set.c, .int .u64 p.set.d, .int .i64 p.lo, .int .i64 p.hi, .int .i64 p.gr, .slice ad m c] w9 ∧ PsQ _ w9 _ _ ∧ PsQ _ w9 _ _)
  have hw2 : IntKind.i64.wrap (2 * (s.size : Int)) = 2 * (s.size : Int) := by rw [IntKind.wrap_i64]; omega
  clear hb hps HPP2 q0
  obtain ⟨n1, hn1⟩ : ∃ n, n = l.length := ⟨_, rfl⟩
  obtain ⟨n2, hn2⟩ : ∃ n, n = l2.length := ⟨_, rfl⟩
  have he1 := ends9_any w9 _ _ l HL9.out.2.1 (Nat.le_trans HLL.out (by decide))
  have HN := hid (⟨hn1, hn2⟩ : _ ∧ _)
  rw [← hn1] at he1 ⊢
  rw [← hn2]
  have HE1 := hid he1
  clear hn1 hn2 he1
  go_wp2_with fail
  refine HE1.out.mono ?_
  rintro e w10 ⟨a10, c10, rfl, hb, hi⟩
  have HL10 := hid (⟨HL9.out.1.later hb, HL9.out.2.2.below hb⟩ : TreeAt w t [.int .i64 p.op, .int .u64 p.set.a, .int .u64 p.set.b, .int .u64 p.set.c, .int .u64 p.set.d, .int .i64 p.lo, .int .i64 p.hi, .int .i64 p.gr, .slice ad m c] w10 ∧ PsQ _ w10 _ _)
  have hh1 := has9_any w10 _ _ s.size hi (by rw [List.length_map]; exact Nat.le_trans HLL.out (by decide))
  rw [← HD.out] at hh1
  have HH1 := hid hh1
  clear hb hi hh1
  go_wp2_with fail
  refine HH1.out.mono ?_
  rintro e w11 ⟨rfl, hb⟩
  have HL11 := hid (⟨HL10.out.1.later hb, HL10.out.2.below hb⟩ : TreeAt w t [.int .i64 p.op, .int .u64 p.set.a, .int .u64 p.set.b, .int .u64 p.set.c, .int .u64 p.set.d, .int .i64 p.lo, .int .i64 p.hi, .int .i64 p.gr, .slice ad m c] w11 ∧ PsQ _ w11 _ _)
  have he2 := ends9_any w11 _ _ l2 HL11.out.2 (Nat.le_trans HLL2.out (by decide))
  rw [← HN.out.2] at he2
  have HE2 := hid he2
  clear hb he2
  go_wp2_with fail
  refine HE2.out.mono ?_
  rintro e w12 ⟨a12, c12, rfl, hb, hi⟩
  have HL12 := hid (HL11.out.1.later hb)
  have hh2 := has9_any w12 _ _ (2 * s.size) hi (by rw [List.length_map]; exact Nat.le_trans HLL2.out (by decide))
  rw [← HD2.out, show ((2 * s.size : Nat) : Int) = 2 * (s.size : Int) by omega] at hh2
  have HH2 := hid hh2
  clear hb hi hh2
  go_wp2_with fail
  refine HH2.out.mono ?_
  rintro e w13 ⟨rfl, hb⟩
  have HL13 := hid (HL12.out.later hb)
  clear hb
  have hdd : (d == d) = true := by cases d <;> rfl
  go_wp2_with fail
  refine (HAW.out _ HL13.out).mono ?_
  rintro e w14 ⟨rfl, hb⟩
  have HB := hid hb
  clear hb
  go_wp2_with fail
  go_ret
  exact ⟨rfl, HB.out⟩
end Go.Proofs.YtkinnfejgpnddaaDoor
