/- Reback's law RebackDoubles. -/
import Derived.Test.YthnpbopnpdlmnaaD39
import Derived.Test.YthnpbopnpdlmnaaD22
import Derived.Test.YthnpbopnpdlmnaaD40
namespace Go.Proofs.Ythnpbopnpdlmnaa
open Go.RowKit
attribute [local go_sem] gives givesUpon

def TreeB (w : World) (t : Re) (cs : List Value) (x : World) : Prop := Row x w.heap.size cs 28 ∧ Below w.heap.size w x ∧ t.In x cs
theorem TreeB.later {w : World} {t : Re} {cs : List Value} {x y : World} (h : TreeB w t cs x) (hb : Below x.heap.size x y) : TreeB w t cs y :=
  ⟨h.1.below hb h.1.lt, h.2.1.trans (hb.mono h.2.1.size), h.2.2.below hb⟩
def TrueB (w : World) (e : Ending) (w' : World) : Prop := e = .returned (.bool true) ∧ Below w.heap.size w w'
theorem backT_inB (w : World) : backT.In w [.int .i64 9, .int .u64 0, .int .u64 0, .int .u64 0, .int .u64 0, .int .i64 0, .int .i64 0, .int .i64 1, .slice none 0 0] := by
  unfold backT
  rw [Re.In]
  exact ⟨none, 0, rfl, ⟨by unfold I64; dsimp only; omega, Cs.none_wf, by unfold I64; dsimp only; omega, by unfold I64; dsimp only; omega, by unfold I64; dsimp only; omega⟩, Nat.le_refl _, by unfold maxLen; omega, fun _ => rfl, by rw [Re.AllIn]; trivial⟩
set_option maxRecDepth 100000 in
set_option maxHeartbeats 16000000 in
theorem LawDoublesB_any (w : World) (t : Re) (cs : List Value) (s : ByteArray) (hin : t.In w cs) (_hs : (s.size : Int) ≤ 9223372036854775807) :
    Calls Try.prog 3 #[.agg cs.toArray, .string s] w fun e w' => e = .returned (.bool true) ∧ Below w.heap.size w w' := by
  obtain ⟨p, ad, m, c, rfl⟩ := Re.cells_shape hin
  have hb2 : Below w.heap.size w (w.alloc (.cells #[.int .i64 p.op, .int .u64 p.set.a, .int .u64 p.set.b, .int .u64 p.set.c, .int .u64 p.set.d, .int .i64 p.lo, .int .i64 p.hi, .int .i64 p.gr, .slice ad m c] 28)) := (Below.refl _ _).alloc (Nat.le_refl _) _
  have hL : TreeB w t [.int .i64 p.op, .int .u64 p.set.a, .int .u64 p.set.b, .int .u64 p.set.c, .int .u64 p.set.d, .int .i64 p.lo, .int .i64 p.hi, .int .i64 p.gr, .slice ad m c] (w.alloc (.cells #[.int .i64 p.op, .int .u64 p.set.a, .int .u64 p.set.b, .int .u64 p.set.c, .int .u64 p.set.d, .int .i64 p.lo, .int .i64 p.hi, .int .i64 p.gr, .slice ad m c] 28)) := ⟨Row.new rfl, hb2, hin.below hb2⟩
  have HL := hid hL
  clear hb2 hL hin
  have HSM := hid (fun (x : World) (hx : TreeB w t [.int .i64 p.op, .int .u64 p.set.a, .int .u64 p.set.b, .int .u64 p.set.c, .int .u64 p.set.d, .int .i64 p.lo, .int .i64 p.hi, .int .i64 p.gr, .slice ad m c] x) => SmallB_any x t [.int .i64 p.op, .int .u64 p.set.a, .int .u64 p.set.b, .int .u64 p.set.c, .int .u64 p.set.d, .int .i64 p.lo, .int .i64 p.hi, .int .i64 p.gr, .slice ad m c] 8 hx.2.2 (by omega))
  have HAW : Hid (∀ x, TreeB w t [.int .i64 p.op, .int .u64 p.set.a, .int .u64 p.set.b, .int .u64 p.set.c, .int .u64 p.set.d, .int .i64 p.lo, .int .i64 p.hi, .int .i64 p.gr, .slice ad m c] x → Calls Try.prog 11 #[] x (TrueB w)) := fun x hx => (awakeB_any x).mono fun e w' h => ⟨h.1, hx.2.1.trans (h.2.mono hx.2.1.size)⟩
  have q0 := HL.out.1.c9
  cases hsmall : t.small 8 with
  | false =>
    rw [hsmall] at HSM
    clear hsmall
    go_enter Try.func3, Try.ntmps3
    go_wp2_with fail
    refine (HSM.out _ HL.out).mono ?_
    rintro e w1 ⟨rfl, hb⟩
    have HL1 := hid (HL.out.later hb)
    clear hb q0
    go_wp2_with fail
    refine (HAW.out _ HL1.out).mono ?_
    rintro e w9 ⟨rfl, hb⟩
    have HB := hid hb
    clear hb
    go_wp2_with fail
    go_ret
    exact ⟨rfl, HB.out⟩
  | true =>
  rw [hsmall] at HSM
  have hsz := Re.small_size hsmall
  have HSZ := hid hsz
  clear hsmall
  by_cases hs : s.size ≤ 6
  case neg =>
    have hsI : (6 : Int) < s.size := by omega
    go_enter Try.func3, Try.ntmps3
    go_wp2_with fail
    refine (HSM.out _ HL.out).mono ?_
    rintro e w1 ⟨rfl, hb⟩
    have HL1 := hid (HL.out.later hb)
    clear hb q0
    go_wp2_with fail
    refine (HAW.out _ HL1.out).mono ?_
    rintro e w9 ⟨rfl, hb⟩
    have HB := hid hb
    clear hb
    go_wp2_with fail
    go_ret
    exact ⟨rfl, HB.out⟩
  have hsI : ¬ (6 : Int) < s.size := by omega
  go_enter Try.func3, Try.ntmps3
  go_wp2_with fail
  refine (HSM.out _ HL.out).mono ?_
  rintro e w1 ⟨rfl, hb⟩
  have HL1 := hid (HL.out.later hb)
  clear hb q0 HSM
  have q0 := HL1.out.1.c9
  have HCK := hid (CheckRef_any t w1 [.int .i64 p.op, .int .u64 p.set.a, .int .u64 p.set.b, .int .u64 p.set.c, .int .u64 p.set.d, .int .i64 p.lo, .int .i64 p.hi, .int .i64 p.gr, .slice ad m c] HL1.out.2.2 (by have := HSZ.out; omega))
  by_cases he : t.err = 0
  case neg =>
    have heb : (t.err != 0) = true := by simpa using he
    clear he
    go_wp2_with fail
    refine HCK.out.mono ?_
    rintro e w2 ⟨rfl, hb⟩
    have HL2 := hid (HL1.out.later hb)
    clear hb q0
    go_wp2_with fail
    refine (HAW.out _ HL2.out).mono ?_
    rintro e w9 ⟨rfl, hb⟩
    have HB := hid hb
    clear hb
    go_wp2_with fail
    go_ret
    exact ⟨rfl, HB.out⟩
  rw [he] at HCK
  go_wp2_with fail
  refine HCK.out.mono ?_
  rintro e w2 ⟨rfl, hb⟩
  have HL2 := hid (HL1.out.later hb)
  clear hb q0 HCK
  have q0 := HL2.out.1.c9
  have HGR := hid (GroupsRef_any t w2 [.int .i64 p.op, .int .u64 p.set.a, .int .u64 p.set.b, .int .u64 p.set.c, .int .u64 p.set.d, .int .i64 p.lo, .int .i64 p.hi, .int .i64 p.gr, .slice ad m c] HL2.out.2.2 (by have := HSZ.out; omega))
  obtain ⟨g, hg⟩ : ∃ g, g = t.groups := ⟨_, rfl⟩
  rw [← hg] at HGR
  by_cases hg0 : g = 0
  case neg =>
    have hgI : (0 : Int) < g := by omega
    clear hg
    go_wp2_with fail
    refine HGR.out.mono ?_
    rintro e w3 ⟨rfl, hb⟩
    have HL3 := hid (HL2.out.later hb)
    clear hb q0
    go_wp2_with fail
    refine (HAW.out _ HL3.out).mono ?_
    rintro e w9 ⟨rfl, hb⟩
    have HB := hid hb
    clear hb
    go_wp2_with fail
    go_ret
    exact ⟨rfl, HB.out⟩
  subst hg0
  have HG0 := hid hg
  have HE0 := hid he
  clear hg he
  go_wp2_with fail
  refine HGR.out.mono ?_
  rintro e w3 ⟨rfl, hb⟩
  have HL3 := hid (HL2.out.later hb)
  clear hb q0 HGR
  have q0 := HL3.out.1.c9
  have HBK := hid (BackRef_any t w3 [.int .i64 p.op, .int .u64 p.set.a, .int .u64 p.set.b, .int .u64 p.set.c, .int .u64 p.set.d, .int .i64 p.lo, .int .i64 p.hi, .int .i64 p.gr, .slice ad m c] HL3.out.2.2 (by have := HSZ.out; omega))
  obtain ⟨bk, hbk⟩ : ∃ b, b = decide (0 < t.backs) := ⟨_, rfl⟩
  rw [← hbk] at HBK
  clear hbk
  cases bk with
  | true =>
    go_wp2_with fail
    refine HBK.out.mono ?_
    rintro e w4 ⟨rfl, hb⟩
    have HL4 := hid (HL3.out.later hb)
    clear hb q0
    go_wp2_with fail
    refine (HAW.out _ HL4.out).mono ?_
    rintro e w9 ⟨rfl, hb⟩
    have HB := hid hb
    clear hb
    go_wp2_with fail
    go_ret
    exact ⟨rfl, HB.out⟩
  | false =>
  go_wp2_with fail
  refine HBK.out.mono ?_
  rintro e w4 ⟨rfl, hb⟩
  have HL4 := hid (HL3.out.later hb)
  clear hb q0 HBK
  have q0 := HL4.out.1.c9
  have HCL := hid (anchored14_any w4 t w4 [.int .i64 p.op, .int .u64 p.set.a, .int .u64 p.set.b, .int .u64 p.set.c, .int .u64 p.set.d, .int .i64 p.lo, .int .i64 p.hi, .int .i64 p.gr, .slice ad m c] HL4.out.2.2 (Below.refl _ _))
  cases ha : t.anyA with
  | true =>
    rw [ha] at HCL
    clear ha
    go_wp2_with fail
    refine HCL.out.mono ?_
    rintro e w5 ⟨rfl, hb⟩
    have HL5 := hid (HL4.out.later hb)
    clear hb q0
    go_wp2_with fail
    refine (HAW.out _ HL5.out).mono ?_
    rintro e w9 ⟨rfl, hb⟩
    have HB := hid hb
    clear hb
    go_wp2_with fail
    go_ret
    exact ⟨rfl, HB.out⟩
  | false =>
  rw [ha] at HCL
  have ha78 : t.anch 7 = false ∧ t.anch 8 = false := by
    unfold Re.anyA at ha
    rwa [Bool.or_eq_false_iff] at ha
  have HA78 := hid ha78
  have HTW := hid (twice_ok HE0.out HG0.out.symm (by have := HSZ.out; omega))
  have HD0 := hid (doubles_law (t := s) HE0.out HG0.out.symm (by have := HSZ.out; omega) ha78.1 ha78.2 hs)
  clear ha ha78
  go_wp2_with fail
  refine HCL.out.mono ?_
  rintro e w5 ⟨rfl, hb⟩
  have HL5 := hid (HL4.out.later hb)
  clear hb q0 HCL
  have q0 := HL5.out.1.c9
  obtain ⟨⟨l, x⟩, hr⟩ : ∃ r, r = parsesR t s 0 false := ⟨_, rfl⟩
  have hpp := RParses_any w5 t [.int .i64 p.op, .int .u64 p.set.a, .int .u64 p.set.b, .int .u64 p.set.c, .int .u64 p.set.d, .int .i64 p.lo, .int .i64 p.hi, .int .i64 p.gr, .slice ad m c] s 0 false HL5.out.2.2 (by have := HSZ.out; omega) (by omega)
  rw [← hr] at hpp
  have HPP := hid hpp
  have hx0 := HD0.out.1
  rw [← hr] at hx0
  obtain rfl : x = 0 := hx0
  have hll := parsesR_len (t := t) (s := s) (at_ := 0) (lines := false)
  rw [← hr] at hll
  have HLL := hid hll
  have HRR := hid hr
  clear hpp hr hll HD0
  go_wp2_with fail
  refine HPP.out.mono ?_
  rintro e w6 ⟨a6, c6, rfl, hb, hps⟩
  dsimp only at hps ⊢
  have HL6 := hid (HL5.out.later hb)
  have HPS := hid hps
  clear hb hps q0 HPP
  obtain ⟨dd, hdd⟩ : ∃ d, d = decide (s.size ∈ l.map Prod.fst) := ⟨_, rfl⟩
  have HDD := hid hdd
  clear hdd
  have q0 := HL6.out.1.c9
  have hlb : l.length ≤ 4096 := HLL.out
  go_wp2_with fail
  go_loopw [5, 8] (fun v ix wr => ∃ (j : Nat) (b : Bool), j ≤ l.length ∧ v = .bool b ∧ ix = .int .i64 j ∧ Hid (wr = w6) ∧ Hid (dd = (b || decide (s.size ∈ (l.drop j).map Prod.fst)))) (fun _ ix _ => l.length - (intOf ix).toNat)
  case atStart => exact ⟨0, false, Nat.zero_le _, rfl, rfl, hid rfl, HDD.out⟩
  case round =>
    obtain ⟨j, b, hj, rfl, rfl, HW, HB0⟩ := hrel
    by_cases hlt : j < l.length
    · obtain ⟨bb, cc, q1, q2, sa, sc, hlk, hv, hbb, -, -, hc0, -, -⟩ := HPS.out.get hlt
      rw [← HW.out] at hc0
      have hjI : (j : Int) < l.length := by omega
      have hd := List.drop_eq_getElem_cons hlt
      have hel : l[j] = (q1, q2) := Option.some.inj ((List.getElem?_eq_getElem hlt).symm.trans hlk)
      rw [hel] at hd
      have HBN : Hid (dd = (b || (decide (s.size = q1) || decide (s.size ∈ (l.drop (j + 1)).map Prod.fst)))) := by
        show dd = _
        rw [HB0.out, hd, List.map_cons]
        congr 1
        rw [← Bool.decide_or]
        exact decide_eq_decide.2 List.mem_cons
      clear hd hel hlk HB0
      injection hv with hv1 hv2 hv3
      subst hv1
      cases b with
      | true =>
        have HE : Hid (dd = (true || decide (s.size ∈ (l.drop (j + 1)).map Prod.fst))) := by show dd = _; rw [HBN.out]; rfl
        go_wp2_with fail
        refine ⟨⟨j + 1, true, by omega, rfl, by go_num, hid HW.out, HE⟩, ?_⟩
        simp [intOf]; omega
      | false =>
        obtain ⟨r, hr⟩ : ∃ r, r = decide (s.size = q1) := ⟨_, rfl⟩
        have HE : Hid (dd = (r || decide (s.size ∈ (l.drop (j + 1)).map Prod.fst))) := by show dd = _; rw [HBN.out, hr]; rfl
        have hr2 : ((q1 : Int) == (s.size : Int)) = r := by
          rw [hr, Bool.eq_iff_iff]
          simp
          omega
        have HR2 := hid hr2
        clear hr HBN
        by_cases hq : (q1 : Int) = s.size
        · obtain rfl : r = true := by rw [← hr2]; simpa using hq
          clear hr2
          have hq2 : ((q1 : Int) == (s.size : Int)) = true := HR2.out
          clear hq
          go_wp2_with fail
          refine ⟨⟨j + 1, true, by omega, by simp [HR2.out], by go_num, hid HW.out, HE⟩, ?_⟩
          simp [intOf]; omega
        · obtain rfl : r = false := by rw [← hr2]; simpa using hq
          clear hr2
          have hq2 : ((q1 : Int) == (s.size : Int)) = false := HR2.out
          clear hq
          go_wp2_with fail
          refine ⟨⟨j + 1, false, by omega, by simp [HR2.out], by go_num, hid HW.out, HE⟩, ?_⟩
          simp [intOf]; omega
    · have hjI : ¬ (j : Int) < l.length := by omega
      have HE : Hid (dd = b) := by
        have := HB0.out
        rw [List.drop_eq_nil_of_le (by omega), List.map_nil] at this
        exact hid (by simpa using this)
      obtain rfl : wr = w6 := HW.out
      clear HB0 HW
      go_wp2_with fail
      have hX : Below wr.heap.size wr (((wr.alloc (.cells #[.int .i64 p.op, .int .u64 p.set.a, .int .u64 p.set.b, .int .u64 p.set.c, .int .u64 p.set.d, .int .i64 p.lo, .int .i64 p.hi, .int .i64 p.gr, .slice ad m c] 28)).alloc (.cells #[.int .i64 6, .int .u64 0, .int .u64 0, .int .u64 0, .int .u64 0, .int .i64 0, .int .i64 0, .int .i64 1, .slice (some ⟨wr.heap.size, 0, none⟩) 1 1] 28)).alloc (.cells #[.int .i64 6, .int .u64 0, .int .u64 0, .int .u64 0, .int .u64 0, .int .i64 0, .int .i64 0, .int .i64 1, .slice (some ⟨wr.heap.size, 0, none⟩) 1 1, .int .i64 9, .int .u64 0, .int .u64 0, .int .u64 0, .int .u64 0, .int .i64 0, .int .i64 0, .int .i64 1, .slice none 0 0] 28)) := (((Below.refl _ _).alloc (Nat.le_refl _) _).alloc (by simp) _).alloc (by simp; omega) _
      have r1 : Row (((wr.alloc (.cells #[.int .i64 p.op, .int .u64 p.set.a, .int .u64 p.set.b, .int .u64 p.set.c, .int .u64 p.set.d, .int .i64 p.lo, .int .i64 p.hi, .int .i64 p.gr, .slice ad m c] 28)).alloc (.cells #[.int .i64 6, .int .u64 0, .int .u64 0, .int .u64 0, .int .u64 0, .int .i64 0, .int .i64 0, .int .i64 1, .slice (some ⟨wr.heap.size, 0, none⟩) 1 1] 28)).alloc (.cells #[.int .i64 6, .int .u64 0, .int .u64 0, .int .u64 0, .int .u64 0, .int .i64 0, .int .i64 0, .int .i64 1, .slice (some ⟨wr.heap.size, 0, none⟩) 1 1, .int .i64 9, .int .u64 0, .int .u64 0, .int .u64 0, .int .u64 0, .int .i64 0, .int .i64 0, .int .i64 1, .slice none 0 0] 28)) wr.heap.size [.int .i64 p.op, .int .u64 p.set.a, .int .u64 p.set.b, .int .u64 p.set.c, .int .u64 p.set.d, .int .i64 p.lo, .int .i64 p.hi, .int .i64 p.gr, .slice ad m c] 28 := ((Row.new rfl).alloc _).alloc _
      have r2 : Row (((wr.alloc (.cells #[.int .i64 p.op, .int .u64 p.set.a, .int .u64 p.set.b, .int .u64 p.set.c, .int .u64 p.set.d, .int .i64 p.lo, .int .i64 p.hi, .int .i64 p.gr, .slice ad m c] 28)).alloc (.cells #[.int .i64 6, .int .u64 0, .int .u64 0, .int .u64 0, .int .u64 0, .int .i64 0, .int .i64 0, .int .i64 1, .slice (some ⟨wr.heap.size, 0, none⟩) 1 1] 28)).alloc (.cells #[.int .i64 6, .int .u64 0, .int .u64 0, .int .u64 0, .int .u64 0, .int .i64 0, .int .i64 0, .int .i64 1, .slice (some ⟨wr.heap.size, 0, none⟩) 1 1, .int .i64 9, .int .u64 0, .int .u64 0, .int .u64 0, .int .u64 0, .int .i64 0, .int .i64 0, .int .i64 1, .slice none 0 0] 28)) (wr.heap.size + 1 + 1) [.int .i64 6, .int .u64 0, .int .u64 0, .int .u64 0, .int .u64 0, .int .i64 0, .int .i64 0, .int .i64 1, .slice (some ⟨wr.heap.size, 0, none⟩) 1 1, .int .i64 9, .int .u64 0, .int .u64 0, .int .u64 0, .int .u64 0, .int .i64 0, .int .i64 0, .int .i64 1, .slice none 0 0] 28 := Row.new (by simp)
      have I1 : (nodeT 6 1 [t]).In (((wr.alloc (.cells #[.int .i64 p.op, .int .u64 p.set.a, .int .u64 p.set.b, .int .u64 p.set.c, .int .u64 p.set.d, .int .i64 p.lo, .int .i64 p.hi, .int .i64 p.gr, .slice ad m c] 28)).alloc (.cells #[.int .i64 6, .int .u64 0, .int .u64 0, .int .u64 0, .int .u64 0, .int .i64 0, .int .i64 0, .int .i64 1, .slice (some ⟨wr.heap.size, 0, none⟩) 1 1] 28)).alloc (.cells #[.int .i64 6, .int .u64 0, .int .u64 0, .int .u64 0, .int .u64 0, .int .i64 0, .int .i64 0, .int .i64 1, .slice (some ⟨wr.heap.size, 0, none⟩) 1 1, .int .i64 9, .int .u64 0, .int .u64 0, .int .u64 0, .int .u64 0, .int .i64 0, .int .i64 0, .int .i64 1, .slice none 0 0] 28)) [.int .i64 6, .int .u64 0, .int .u64 0, .int .u64 0, .int .u64 0, .int .i64 0, .int .i64 0, .int .i64 1, .slice (some ⟨wr.heap.size, 0, none⟩) 1 1] := node_in (w := (((wr.alloc (.cells #[.int .i64 p.op, .int .u64 p.set.a, .int .u64 p.set.b, .int .u64 p.set.c, .int .u64 p.set.d, .int .i64 p.lo, .int .i64 p.hi, .int .i64 p.gr, .slice ad m c] 28)).alloc (.cells #[.int .i64 6, .int .u64 0, .int .u64 0, .int .u64 0, .int .u64 0, .int .i64 0, .int .i64 0, .int .i64 1, .slice (some ⟨wr.heap.size, 0, none⟩) 1 1] 28)).alloc (.cells #[.int .i64 6, .int .u64 0, .int .u64 0, .int .u64 0, .int .u64 0, .int .i64 0, .int .i64 0, .int .i64 1, .slice (some ⟨wr.heap.size, 0, none⟩) 1 1, .int .i64 9, .int .u64 0, .int .u64 0, .int .u64 0, .int .u64 0, .int .i64 0, .int .i64 0, .int .i64 1, .slice none 0 0] 28))) (b := wr.heap.size) (T := 28) 6 1 (by unfold I64; omega) (by unfold I64; omega) [(t, [.int .i64 p.op, .int .u64 p.set.a, .int .u64 p.set.b, .int .u64 p.set.c, .int .u64 p.set.d, .int .i64 p.lo, .int .i64 p.hi, .int .i64 p.gr, .slice ad m c])] (by simpa using r1) (by simp) (fun e he => by simp at he; subst he; exact HL6.out.2.2.below hX)
      have I2 : (twiceT t).In (((wr.alloc (.cells #[.int .i64 p.op, .int .u64 p.set.a, .int .u64 p.set.b, .int .u64 p.set.c, .int .u64 p.set.d, .int .i64 p.lo, .int .i64 p.hi, .int .i64 p.gr, .slice ad m c] 28)).alloc (.cells #[.int .i64 6, .int .u64 0, .int .u64 0, .int .u64 0, .int .u64 0, .int .i64 0, .int .i64 0, .int .i64 1, .slice (some ⟨wr.heap.size, 0, none⟩) 1 1] 28)).alloc (.cells #[.int .i64 6, .int .u64 0, .int .u64 0, .int .u64 0, .int .u64 0, .int .i64 0, .int .i64 0, .int .i64 1, .slice (some ⟨wr.heap.size, 0, none⟩) 1 1, .int .i64 9, .int .u64 0, .int .u64 0, .int .u64 0, .int .u64 0, .int .i64 0, .int .i64 0, .int .i64 1, .slice none 0 0] 28)) [.int .i64 3, .int .u64 0, .int .u64 0, .int .u64 0, .int .u64 0, .int .i64 0, .int .i64 0, .int .i64 0, .slice (some ⟨wr.heap.size + 1 + 1, 0, none⟩) 2 2] := node_in (w := (((wr.alloc (.cells #[.int .i64 p.op, .int .u64 p.set.a, .int .u64 p.set.b, .int .u64 p.set.c, .int .u64 p.set.d, .int .i64 p.lo, .int .i64 p.hi, .int .i64 p.gr, .slice ad m c] 28)).alloc (.cells #[.int .i64 6, .int .u64 0, .int .u64 0, .int .u64 0, .int .u64 0, .int .i64 0, .int .i64 0, .int .i64 1, .slice (some ⟨wr.heap.size, 0, none⟩) 1 1] 28)).alloc (.cells #[.int .i64 6, .int .u64 0, .int .u64 0, .int .u64 0, .int .u64 0, .int .i64 0, .int .i64 0, .int .i64 1, .slice (some ⟨wr.heap.size, 0, none⟩) 1 1, .int .i64 9, .int .u64 0, .int .u64 0, .int .u64 0, .int .u64 0, .int .i64 0, .int .i64 0, .int .i64 1, .slice none 0 0] 28))) (b := wr.heap.size + 1 + 1) (T := 28) 3 0 (by unfold I64; omega) (by unfold I64; omega) [(nodeT 6 1 [t], [.int .i64 6, .int .u64 0, .int .u64 0, .int .u64 0, .int .u64 0, .int .i64 0, .int .i64 0, .int .i64 1, .slice (some ⟨wr.heap.size, 0, none⟩) 1 1]), (backT, [.int .i64 9, .int .u64 0, .int .u64 0, .int .u64 0, .int .u64 0, .int .i64 0, .int .i64 0, .int .i64 1, .slice none 0 0])] (by simpa using r2) (by simp) (fun e he => by
        simp at he
        rcases he with rfl | rfl
        · exact I1
        · exact backT_inB _)
      have HX := hid (⟨hX, I2⟩ : _ ∧ _)
      clear hX r1 r2 I1 I2
      refine (Node_any _ _ _ _ _).mono ?_
      rintro e w7 ⟨rfl, hb⟩
      go_upto_region 11 with fail
      have hb7 : Below wr.heap.size wr (w7.alloc (.cells #[.int .i64 3, .int .u64 0, .int .u64 0, .int .u64 0, .int .u64 0, .int .i64 0, .int .i64 0, .int .i64 0, .slice (some ⟨wr.heap.size + 1 + 1, 0, none⟩) 2 2] 28)) := (HX.out.1.trans (hb.mono HX.out.1.size)).alloc (HX.out.1.trans (hb.mono HX.out.1.size)).size _
      have HT8 := hid (⟨HL6.out.later hb7, (Row.new rfl : Row (w7.alloc (.cells #[.int .i64 3, .int .u64 0, .int .u64 0, .int .u64 0, .int .u64 0, .int .i64 0, .int .i64 0, .int .i64 0, .slice (some ⟨wr.heap.size + 1 + 1, 0, none⟩) 2 2] 28)) w7.heap.size [.int .i64 3, .int .u64 0, .int .u64 0, .int .u64 0, .int .u64 0, .int .i64 0, .int .i64 0, .int .i64 0, .slice (some ⟨wr.heap.size + 1 + 1, 0, none⟩) 2 2] 28), (HX.out.2.below hb).below ((Below.refl _ _).alloc (Nat.le_refl _) _)⟩ : TreeB w t [.int .i64 p.op, .int .u64 p.set.a, .int .u64 p.set.b, .int .u64 p.set.c, .int .u64 p.set.d, .int .i64 p.lo, .int .i64 p.hi, .int .i64 p.gr, .slice ad m c] (w7.alloc (.cells #[.int .i64 3, .int .u64 0, .int .u64 0, .int .u64 0, .int .u64 0, .int .i64 0, .int .i64 0, .int .i64 0, .slice (some ⟨wr.heap.size + 1 + 1, 0, none⟩) 2 2] 28)) ∧ Row (w7.alloc (.cells #[.int .i64 3, .int .u64 0, .int .u64 0, .int .u64 0, .int .u64 0, .int .i64 0, .int .i64 0, .int .i64 0, .slice (some ⟨wr.heap.size + 1 + 1, 0, none⟩) 2 2] 28)) w7.heap.size [.int .i64 3, .int .u64 0, .int .u64 0, .int .u64 0, .int .u64 0, .int .i64 0, .int .i64 0, .int .i64 0, .slice (some ⟨wr.heap.size + 1 + 1, 0, none⟩) 2 2] 28 ∧ (twiceT t).In (w7.alloc (.cells #[.int .i64 3, .int .u64 0, .int .u64 0, .int .u64 0, .int .u64 0, .int .i64 0, .int .i64 0, .int .i64 0, .slice (some ⟨wr.heap.size + 1 + 1, 0, none⟩) 2 2] 28)) [.int .i64 3, .int .u64 0, .int .u64 0, .int .u64 0, .int .u64 0, .int .i64 0, .int .i64 0, .int .i64 0, .slice (some ⟨wr.heap.size + 1 + 1, 0, none⟩) 2 2])
      clear hb hb7
      generalize w7.alloc (.cells #[.int .i64 3, .int .u64 0, .int .u64 0, .int .u64 0, .int .u64 0, .int .i64 0, .int .i64 0, .int .i64 0, .slice (some ⟨wr.heap.size + 1 + 1, 0, none⟩) 2 2] 28) = w8 at HT8 ⊢
      generalize w7.heap.size = b8 at HT8 ⊢
      clear q0
      have q0 := HT8.out.2.1.c9
      have hss : (s ++ s).size ≤ 12 := by
        have hsl : ∀ x : ByteArray, x.data.toList.length = x.size := fun x => by rw [Array.length_toList]; rfl
        rw [← hsl, ByteArray.data_append, Array.toList_append, List.length_append, hsl]; omega
      have HBA := hid (BAt_any w8 (twiceT t) [.int .i64 3, .int .u64 0, .int .u64 0, .int .u64 0, .int .u64 0, .int .i64 0, .int .i64 0, .int .i64 0, .slice (some ⟨wr.heap.size + 1 + 1, 0, none⟩) 2 2] (s ++ s) 0 false 20000 20000 HT8.out.2.2 (by have := HTW.out.2.2; omega) (by omega) (by decide) (by omega))
      clear hss HX
      go_wp2_with fail
      refine HBA.out.mono ?_
      rintro e w9 ⟨o, k, x, v, ha, rfl, hb, hf1, hf2⟩
      have hsp := SpB.lst hf1 hf2
      obtain ⟨va, vc, rfl⟩ := hsp.form
      have HL9 := hid (HT8.out.1.later hb)
      have HSP := hid hsp
      have HA := hid ha
      clear hb hf1 hf2 hsp ha HBA q0 HT8
      by_cases hx : x = 0
      case neg =>
        have hx1 : (x != 0) = true := by simp [hx]
        generalize o.isFound = fo
        generalize o.lst.length = oln
        clear hx HA HSP
        go_wp2_with fail
        refine (HAW.out _ (HL9.out.later ((Below.refl _ _).alloc (Nat.le_refl _) (.cells #[.slice va oln vc] 43)))).mono ?_
        rintro e w10 ⟨rfl, hb⟩
        have HB := hid hb
        clear hb
        go_wp2_with fail
        go_ret
        exact ⟨rfl, HB.out⟩
      subst hx
      cases b with
      | false =>
        generalize o.isFound = fo
        generalize o.lst.length = oln
        clear HA HSP
        go_wp2_with fail
        refine (HAW.out _ (HL9.out.later ((Below.refl _ _).alloc (Nat.le_refl _) (.cells #[.slice va oln vc] 43)))).mono ?_
        rintro e w10 ⟨rfl, hb⟩
        have HB := hid hb
        clear hb
        go_wp2_with fail
        go_ret
        exact ⟨rfl, HB.out⟩
      | true =>
        have hmem : s.size ∈ (parsesR t s 0 false).1.map Prod.fst := by
          rw [← HRR.out]
          exact of_decide_eq_true (HDD.out.symm.trans HE.out)
        obtain ⟨⟨y1, y2⟩, rfl⟩ := doublesB_law HE0.out HG0.out.symm (by have := HSZ.out; omega) HA78.out.1 HA78.out.2 hs HA.out rfl hmem
        rcases HSP.out with ⟨h0, -⟩ | ⟨-, bb, cc, more, hv, hbb, hrow⟩
        · cases h0
        · injection hv with hv1 hv2 hv3
          subst hv1
          simp only [Out.isFound, Out.lst, List.length_cons, List.length_nil]
          have e0 := hrow.cell 0
          have e1 := hrow.cell 1
          simp only [Out.lst, spc, List.cons_append, List.getElem?_cons_zero, List.getElem?_cons_succ] at e0 e1
          have hbz := hrow.lt
          have heq := run_eqIn_span 0 ((2 * s.size : Nat) : Int) 0 ((2 * s.size : Nat) : Int)
          have hm2 : IntKind.i64.wrap (2 * (s.size : Int)) = ((2 * s.size : Nat) : Int) := by rw [IntKind.wrap_i64]; omega
          clear hmem hv2 hv3 hrow HSP HA
          go_wp2_with fail
          refine (HAW.out _ (HL9.out.later ((Below.refl _ _).alloc (Nat.le_refl _) (.cells #[.slice (some ⟨bb, 0, none⟩) 2 vc] 43)))).mono ?_
          rintro e w10 ⟨rfl, hb⟩
          have HB := hid hb
          clear hb
          go_wp2_with fail
          go_ret
          exact ⟨rfl, HB.out⟩
end Go.Proofs.Ythnpbopnpdlmnaa
