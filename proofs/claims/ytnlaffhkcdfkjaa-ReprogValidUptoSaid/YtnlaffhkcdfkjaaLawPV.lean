/- The law ReprogValid: its walk answers true. -/
import Derived.Test.YtnlaffhkcdfkjaaAwake10
import Derived.Test.YtnlaffhkcdfkjaaRight
import Derived.BigQuiet
namespace Go.Proofs.Ytnlaffhkcdfkjaa
open Go.RowKit
attribute [local go_sem] gives givesUpon

-- def BL := [.int .i64 p.op, .int .u64 p.set.a, .int .u64 p.set.b, .int .u64 p.set.c, .int .u64 p.set.d, .int .i64 p.lo, .int .i64 p.hi, .int .i64 p.gr, .slice ad xs.length cap]
set_option maxRecDepth 100000 in
set_option maxHeartbeats 4000000 in
theorem LawValid_any (t : Re) (lines : Bool) (w : World) (cs : List Value) (hIn : t.In w cs) (hsz : t.size ≤ 1048576) :
    Calls Try.prog 4 #[.agg cs.toArray, .bool lines] w fun e w' => e = .returned (.bool true) ∧ Below w.heap.size w w' := by
  cases t with
  | mk p xs =>
    have hIn' := hIn
    rw [Re.In] at hIn
    obtain ⟨ad, cap, rfl, _⟩ := hIn
    simp only [Pay.cells]
    have HI := hid hIn'
    have HSZ := hid hsz
    have HR0 : Hid (Row (w.alloc (.cells #[.int .i64 p.op, .int .u64 p.set.a, .int .u64 p.set.b, .int .u64 p.set.c, .int .u64 p.set.d, .int .i64 p.lo, .int .i64 p.hi, .int .i64 p.gr, .slice ad xs.length cap] 28)) w.heap.size [.int .i64 p.op, .int .u64 p.set.a, .int .u64 p.set.b, .int .u64 p.set.c, .int .u64 p.set.d, .int .i64 p.lo, .int .i64 p.hi, .int .i64 p.gr, .slice ad xs.length cap] 28 ∧ Below w.heap.size w (w.alloc (.cells #[.int .i64 p.op, .int .u64 p.set.a, .int .u64 p.set.b, .int .u64 p.set.c, .int .u64 p.set.d, .int .i64 p.lo, .int .i64 p.hi, .int .i64 p.gr, .slice ad xs.length cap] 28))) := ⟨Row.new (cs := [.int .i64 p.op, .int .u64 p.set.a, .int .u64 p.set.b, .int .u64 p.set.c, .int .u64 p.set.d, .int .i64 p.lo, .int .i64 p.hi, .int .i64 p.gr, .slice ad xs.length cap]) rfl, (Below.refl _ w).alloc (Nat.le_refl _) _⟩
    have HMX := hid (Re.compiled_max (.mk p xs))
    have HC1 := hid (Compile_any (.mk p xs) lines _ _ (HI.out.below HR0.out.2) HSZ.out)
    unfold CPost at HC1
    clear hIn' hsz
    rcases Decidable.em ((Re.mk p xs).compiled.2 = 0) with h0 | h0
    · have HRA := hid (Re.compiled_right h0)
      have HMA := hid (Re.compiled_match h0)
      have efl : (lines && decide ((Re.mk p xs).compiled.2 = 0)) = lines := by rw [h0]; simp
      rw [efl, h0] at HC1
      generalize (Re.mk p xs).compiled.1 = LL at *
      clear h0 efl
      go_enter Try.func4, Try.ntmps4
      go_wp2_with fail
      refine HC1.out.mono ?_
      rintro e w1 ⟨a1, n1, c1, rfl, ho1, hb1⟩
      have hn1 : n1 = LL.length := by
        obtain ⟨a', c', e⟩ := ho1.form
        injection e
      subst hn1
      have hal := (Below.refl w1.heap.size w1).alloc (Nat.le_refl _) (.cells #[.slice a1 LL.length c1, .bool lines] 31)
      have HRA1 := hid (Row.new (w := w1) (B := w1.heap.size) (cs := [.slice a1 LL.length c1, .bool lines]) (T := 31) rfl)
      have HB1 : Hid (Below w.heap.size w (w1.alloc (.cells #[.slice a1 LL.length c1, .bool lines] 31))) := HR0.out.2.trans ((hb1.trans (hal.mono hb1.size)).mono (by simp))
      have HO1 := hid (ho1.below hal)
      have hz1 : (w1.alloc (.cells #[.slice a1 LL.length c1, .bool lines] 31)).heap.size = w1.heap.size + 1 := by simp
      have HZ1 := hid hz1
      clear hal hb1 ho1 hz1 HC1
      go_wp2_with fail
      generalize hy : (w1.alloc (.cells #[.slice a1 LL.length c1, .bool lines] 31)) = y at *
      clear hy
      go_loopw [7] (fun v wr => ∃ k : Nat, k ≤ LL.length ∧ v = .int .i64 k ∧ Hid (Below y.heap.size y wr)) (fun v _ => LL.length - (intOf v).toNat)
      case atStart => exact ⟨0, by omega, rfl, Below.refl _ _⟩
      case round =>
        obtain ⟨k, hk, rfl, HX⟩ := hrel
        have HR1 := hid (HRA1.out.below HX.out HRA1.out.lt)
        have q1 := HR1.out.c2
        have z1 := HR1.out.lt
        have hmx := HMX.out
        rcases Nat.lt_or_ge k LL.length with hlt | hge
        · have hk1 : LL[k]? = some LL[k] := List.getElem?_eq_getElem hlt
          obtain ⟨-, g1, rfl, k1, k2, k3, -, -, -⟩ := (HO1.out.below HX.out).elem k _ hk1
          have hma := HMA.out k hlt
          have k4 := k3 0 _ rfl
          simp only [Nat.add_zero] at k4
          have HCE := hid k4
          have q4 := HCE.out
          generalize LL[k] = f at *
          clear hk1 k1 k2 k3 k4
          rcases Nat.lt_or_ge (k + 1) LL.length with h1 | h1
          · have d6 : (f.op == 6) = false := by simp; omega
            have dk : ((k : Int) == (LL.length : Int) - 1) = false := by simp; omega
            clear hma
            go_wp2_with fail
            go_quiet (fail)
            go_wp2_with fail
            go_roundw
            case rel => exact ⟨k + 1, by omega, by go_num, below_drewN HX.out _⟩
            case measure => simp [intOf]; omega
          · have d6 : (f.op == 6) = true := by simp; omega
            have dk : ((k : Int) == (LL.length : Int) - 1) = true := by simp; omega
            clear hma
            go_wp2_with fail
            go_quiet (fail)
            go_wp2_with fail
            go_roundw
            case rel => exact ⟨k + 1, by omega, by go_num, below_drewN HX.out _⟩
            case measure => simp [intOf]; omega
        · obtain rfl : k = LL.length := by omega
          have HO2 := hid (HO1.out.below HX.out)
          go_wp2_with fail
          refine (Valid_any wr _ _ LL lines HO2.out HRA.out).mono ?_
          rintro e w4 ⟨rfl, hb4⟩
          have HR4 := hid (HR1.out.below hb4 HR1.out.lt)
          have q4 := HR4.out.c2
          have z4 := HR4.out.lt
          have HB4 : Hid (Below w.heap.size w w4) := (HB1.out.trans (HX.out.mono HB1.out.size)).trans (hb4.mono ((HB1.out.trans (HX.out.mono HB1.out.size))).size)
          clear hb4 q1 z1 HR1
          go_wp2_with fail
          refine (awake_any _).mono ?_
          rintro e w5 ⟨rfl, hb5⟩
          have HB5 : Hid (Below w.heap.size w w5) := HB4.out.trans (hb5.mono HB4.out.size)
          clear hb5
          go_wp2_with fail
          go_ret
          exact ⟨rfl, HB5.out⟩
    · have HN := hid (Re.compiled_none h0)
      have efl : (lines && decide ((Re.mk p xs).compiled.2 = 0)) = false := by simp [h0]
      rw [efl, HN.out] at HC1
      generalize (Re.mk p xs).compiled.2 = er at *
      have dne : (er != 0) = true := by simpa using h0
      clear h0 efl HN HMX
      go_enter Try.func4, Try.ntmps4
      go_wp2_with fail
      refine HC1.out.mono ?_
      rintro e w1 ⟨a1, n1, c1, rfl, ho1, hb1⟩
      have hn1 : n1 = 0 := by
        obtain ⟨a', c', e⟩ := ho1.form
        injection e
      subst hn1
      have HB1 : Hid (Below w.heap.size w w1) := HR0.out.2.trans (hb1.mono (by simp))
      have HB2 : Hid (Below w.heap.size w (w1.alloc (.cells #[.slice a1 0 c1, .bool false] 31))) := HB1.out.alloc HB1.out.size _
      clear hb1 ho1 HC1
      go_wp2_with fail
      refine (awake_any _).mono ?_
      rintro e w5 ⟨rfl, hb5⟩
      have HB5 : Hid (Below w.heap.size w w5) := HB2.out.trans (hb5.mono HB2.out.size)
      clear hb5
      go_wp2_with fail
      go_ret
      exact ⟨rfl, HB5.out⟩
end Go.Proofs.Ytnlaffhkcdfkjaa
