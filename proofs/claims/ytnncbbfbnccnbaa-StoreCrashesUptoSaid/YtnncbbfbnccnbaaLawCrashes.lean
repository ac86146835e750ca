/- The law StoreCrashes: its walk answers true. -/
import Derived.Test.YtnncbbfbnccnbaaLawBounds
import Derived.Test.YtnncbbfbnccnbaaCrash
import Derived.Deep.RegionWith
namespace Go.Proofs.Ytnncbbfbnccnbaa
open Go.RowKit Go.Maps Go.Sort
attribute [local go_sem] gives givesUpon

theorem size_res (v : ByteArray) (n : Int) : (Try.prog.info? 37).map (·.size) = some ([.string v, .int .i64 n] : List Value).length := by
  show _ = some 2
  kernel_rfl
set_option maxRecDepth 100000 in
set_option maxHeartbeats 8000000 in
theorem LawCrashes_any (w : World) (n : Int) (a : Option Addr) (cap : Nat) (l : List CallD) (m : Nat) (hl : CallsAt w a l) (hn : l.length ≤ 4611686018427387904) (hf : CallsFit l) (hm : m < 256) :
    Calls Try.prog 8 #[.int .i64 n, .slice a l.length cap, .int .u8 m] w fun e w' => e = .returned (.bool true) ∧ Below w.heap.size w w' := by
  have HL := hid hl
  have HF := hid hf
  clear hl hf
  go_enter Try.func8, Try.ntmps8
  go_wp2_with fail
  refine (few_any w a cap l HL.out hn).mono ?_
  rintro e w0 ⟨b, rfl, rfl, hb⟩
  cases b with
  | false =>
    go_wp2_with fail
    refine (awake_any _).mono ?_
    rintro e wz ⟨rfl, hbz⟩
    have HZ := hid hbz
    clear hbz
    go_wp2_with fail
    go_ret
    exact ⟨rfl, HZ.out⟩
  | true =>
    have HFEW := hid (hb rfl)
    clear hb
    go_wp2_with fail
    refine (One.new' n _).mono ?_
    rintro e w1 ⟨rfl, ho⟩
    have HO := hid ho
    have hlim : 0 ≤ min (max n 0) 262144 ∧ min (max n 0) 262144 ≤ 262144 := by omega
    have hg0 := good0 _ hlim
    have HG0 := hid hg0
    clear ho hg0 hlim
    go_wp2_with fail
    refine (Two.new HO.out).mono ?_
    rintro e w2 ⟨rfl, ht⟩
    have HT := hid ht
    clear ht HO
    generalize min (max n 0) 262144 = lim at *
    generalize w1.heap.size + 1 = B at *
    go_wp2_with fail
    refine (HT.out.fail _).mono ?_
    rintro e w3 ⟨rfl, ht⟩
    have hg1 := (HG0.out.fail (1 + m) (by omega)).1
    have hd : Down m 0 ((Ab.mk lim 0 0 [] false 0).fail (1 + m)) ⟨lim, 0, 0, [], false, 0⟩ := ⟨Nat.zero_le _, rfl, rfl, .inl (by show Ab.mk lim 0 0 [] false (max (1 + (m : Int)) 0) = _; rw [show max (1 + (m : Int)) 0 = 1 + m - ((0 : Nat) : Int) by omega])⟩
    have HT3 := hid ht
    have HG1 := hid hg1
    have HD := hid hd
    clear ht HT hg1 hd
    generalize (Ab.mk lim 0 0 [] false 0).fail (1 + m) = t0 at *
    generalize Ab.mk lim 0 0 [] false 0 = u0 at *
    go_wp2_with fail
    go_loopw [9, 10] (fun md i wr => ∃ (k mk : Nat) (ta ua : Ab), k ≤ l.length ∧ md = .int .i64 mk ∧ i = .int .i64 k ∧ Hid (Two w0 (w0.heap.size + 1) B [] ta ua wr) ∧ Hid ta.good ∧ Hid ua.good ∧ Hid (Down m mk ta ua)) (fun _ i _ => l.length - (intOf i).toNat)
    case atStart => exact ⟨0, 0, _, _, by omega, rfl, rfl, HT3.out, HG1.out, HG0.out, HD.out⟩
    case round =>
      obtain ⟨k, mk, ta, ua, hk, rfl, rfl, HX, HTG, HUG, HDN⟩ := hrel
      rcases Nat.lt_or_ge k l.length with hlt | hge
      · obtain ⟨b, o, rfl, hb, hc⟩ : ∃ b o, a = some ⟨b, o, none⟩ ∧ b < wr.heap.size ∧ ∀ i (h : i < l.length), CellsAt wr b (o + i * 6) l[i].cells := by
          rcases HL.out.below HX.out.below with h | h
          · rw [h] at hlt; cases hlt
          · exact h
        have hck := hc k hlt
        have HFT := hid (call_fit HF.out HFEW.out k hlt)
        generalize l[k] = c at *
        clear hc
        obtain ⟨op, nm, tx, st, cn, kept⟩ := c
        have HC : Hid (CellsAt wr b (o + k * 6) [.int .i64 op, .string nm, .string tx, .int .i64 st, .int .i64 cn, .int .u64 kept]) := hck
        clear hck
        have q := cells6 HC.out
        go_upto_region 10 with fail
        have ha : Two w0 (w0.heap.size + 1) B [(wr.heap.size, [.int .i64 op, .string nm, .string tx, .int .i64 st, .int .i64 cn, .int .u64 kept], 41)] ta ua (wr.alloc (.cells #[.int .i64 op, .string nm, .string tx, .int .i64 st, .int .i64 cn, .int .u64 kept] 41)) := HX.out.alloc _ _
        have r3 : Row (wr.alloc (.cells #[.int .i64 op, .string nm, .string tx, .int .i64 st, .int .i64 cn, .int .u64 kept] 41)) wr.heap.size [.int .i64 op, .string nm, .string tx, .int .i64 st, .int .i64 cn, .int .u64 kept] 41 := Row.new (by simp)
        have HA := hid ha
        clear ha q hb HC HX
        generalize wr.alloc (.cells #[.int .i64 op, .string nm, .string tx, .int .i64 st, .int .i64 cn, .int .u64 kept] 41) = x at *
        have q3 := Row.six r3
        have z3 := r3.lt
        clear r3
        generalize wr.heap.size = cb at *
        rcases Int.lt_or_le op 0 with ho0 | ho0
        · go_wp2_with fail
          case roundEnd =>
            refine ⟨⟨k + 1, mk, ta, ua, hlt, rfl, rfl, HA.out.forget, HTG.out, HUG.out, HDN.out⟩, ?_⟩
            show l.length - ((k : Int) + 1).toNat < l.length - (k : Int).toNat
            omega
        rcases Int.lt_or_le 5 op with ho5 | ho5
        · go_wp2_with fail
          case roundEnd =>
            refine ⟨⟨k + 1, mk, ta, ua, hlt, rfl, rfl, HA.out.forget, HTG.out, HUG.out, HDN.out⟩, ?_⟩
            show l.length - ((k : Int) + 1).toNat < l.length - (k : Int).toNat
            omega
        have HCALL := hid (HA.out.call HTG.out (⟨op, nm, tx, st, cn, kept⟩ : CallD) HFT.out)
        have HUPT := hid (HA.out.up HTG.out (⟨op, nm, tx, st, cn, kept⟩ : CallD) HFT.out.n)
        have hmk := HDN.out.le
        rcases Nat.lt_or_ge mk m with hmm | hmm
        · have HBF := hid (HDN.out.before hmm (⟨op, nm, tx, st, cn, kept⟩ : CallD) ⟨ho0, ho5⟩)
          go_wp2_with fail
          refine HCALL.out.mono ?_
          rintro e w4 ⟨rfl, ht4⟩
          have hup := HUPT.out.1
          have hbf := HBF.out
          have HUPU := hid (ht4.swap.up HUG.out (⟨op, nm, tx, st, cn, kept⟩ : CallD) HFT.out.n)
          clear HUPT HBF HCALL HA
          generalize ta.call (⟨op, nm, tx, st, cn, kept⟩ : CallD) = res at *
          obtain ⟨⟨rt, re⟩, tb⟩ := res
          simp only at ht4 hup hbf
          have HT4 := hid ht4
          have HTG2 := hid hup
          have HBF := hid hbf
          have r4 := ht4.row (List.Mem.head _)
          have q4 := Row.six r4
          have z4 := r4.lt
          clear ht4 hup hbf q3 z3 r4
          go_upto_region 12 with fail
          have ha : Two w0 (w0.heap.size + 1) B [(w4.heap.size, [.string ⟨rt.toArray⟩, .int .i64 re], 37), (cb, [.int .i64 op, .string nm, .string tx, .int .i64 st, .int .i64 cn, .int .u64 kept], 41)] tb ua (w4.alloc (.cells #[.string ⟨rt.toArray⟩, .int .i64 re] 37)) := HT4.out.alloc _ _
          have HA := hid ha
          clear ha q4 z4 HT4
          generalize w4.alloc (.cells #[.string ⟨rt.toArray⟩, .int .i64 re] 37) = y at *
          generalize w4.heap.size = xb at *
          have hmz : ((mk : Int) == (m : Int)) = false := by simp; omega
          have r5 := HA.out.row (List.Mem.head _)
          have q5 := Row.two r5
          have z5 := r5.lt
          have r6 := HA.out.row (List.Mem.tail _ (List.Mem.head _))
          have q6 := Row.six r6
          have z6 := r6.lt
          clear r5 r6
          have HAD := hid (HA.out.more (Below.refl _ _).drew)
          have HC2 := hid (HAD.out.call2 HUG.out (⟨op, nm, tx, st, cn, kept⟩ : CallD) HFT.out)
          have hup2 := HUPU.out.1
          have hbf := HBF.out
          clear HUPU HBF HAD HA
          generalize ua.call (⟨op, nm, tx, st, cn, kept⟩ : CallD) = resu at *
          obtain ⟨⟨ru, eu⟩, ub⟩ := resu
          simp only at hup2 hbf
          obtain ⟨hrr, hdn⟩ := hbf
          injection hrr with e1 e2
          subst e1 e2
          have HUG2 := hid hup2
          have HDN2 := hid hdn
          clear hup2 hdn
          go_wp2_with fail
          go_region_with (first
            | (go_at_call 16; refine HC2.out.mono ?_; rintro e y2 ⟨rfl, ht⟩; have HT := hid ht; have r5 := ht.row (List.Mem.head _); have q7 := Row.two r5; have z7 := r5.lt; have r6 := ht.row (List.Mem.tail _ (List.Mem.head _)); have q8 := Row.six r6; have z8 := r6.lt; clear r5 r6 ht))
          all_goals
            have HTX := HT
            clear HT
            go_wp2_with fail
            have HSM := hid HDN2.out.same
            have HL1 := HTX.out.list HTG2.out
            rw [HSM.out.1] at HL1
            refine HL1.mono ?_
            rintro e w5 ⟨p, pc, rfl, hfl, ht5, hb5⟩
            have HFL := hid hfl
            have HT5 := hid ht5
            clear hfl ht5 hb5 HTX HL1
            go_wp2_with fail
            refine (HT5.out.list2 HUG2.out).mono ?_
            rintro e w6 ⟨q, qc, rfl, hfl, ht6, hb6⟩
            have HFM := hid hfl
            have HT6 := hid ht6
            have HFL6 := hid (HFL.out.below hb6)
            clear hfl ht6 hb6 HT5 HFL
            go_wp2_with fail
            refine (SameFiles_any w6 p q pc qc _ HFL6.out HFM.out (by have := HUG2.out.few; omega)).mono ?_
            rintro e w7 ⟨rfl, mm, rfl⟩
            have HT7 := hid (HT6.out.more (below_drewN (Below.refl _ _) mm))
            have HP1 := HT7.out.peak
            rw [HSM.out.2] at HP1
            have HP := hid HP1
            clear HP1
            go_wp2_with fail
            refine HP.out.mono ?_
            rintro e w8 ⟨rfl, rfl⟩
            go_wp2_with fail
            refine HT7.out.peak2.mono ?_
            rintro e w8 ⟨rfl, rfl⟩
            go_wp2_with fail
            case roundEnd =>
              refine ⟨⟨k + 1, mk + 1, _, _, hlt, rfl, rfl, HT7.out.forget, HTG2.out, HUG2.out, HDN2.out⟩, ?_⟩
              show l.length - ((k : Int) + 1).toNat < l.length - (k : Int).toNat
              omega
        · obtain rfl : mk = m := by omega
          have HBH := hid (HDN.out.behind (⟨op, nm, tx, st, cn, kept⟩ : CallD) ⟨ho0, ho5⟩)
          go_wp2_with fail
          refine HCALL.out.mono ?_
          rintro e w4 ⟨rfl, ht4⟩
          have hup := HUPT.out.1
          have hbh := HBH.out
          clear HUPT HBH HCALL HA
          generalize ta.call (⟨op, nm, tx, st, cn, kept⟩ : CallD) = res at *
          obtain ⟨⟨rt, re⟩, tb⟩ := res
          simp only at ht4 hup hbh
          obtain ⟨hrr, hdn⟩ := hbh
          injection hrr with e1 e2
          subst e1 e2
          have HT4 := hid ht4
          have HTG2 := hid hup
          have HDN2 := hid hdn
          have HUG2 := HUG
          clear ht4 hup hdn q3 z3 HUG
          go_upto_region 12 with fail
          have ha : Two w0 (w0.heap.size + 1) B [(w4.heap.size, [.string ⟨#[]⟩, .int .i64 19], 37), (cb, [.int .i64 op, .string nm, .string tx, .int .i64 st, .int .i64 cn, .int .u64 kept], 41)] tb ua (w4.alloc (.cells #[.string ⟨#[]⟩, .int .i64 19] 37)) := HT4.out.alloc _ _
          have HTX := hid ha
          clear ha HT4
          generalize w4.alloc (.cells #[.string ⟨#[]⟩, .int .i64 19] 37) = y at *
          generalize w4.heap.size = xb at *
          have r5 := HTX.out.row (List.Mem.head _)
          have q5 := Row.two r5
          have z5 := r5.lt
          clear r5
          go_wp2_with fail
          have HSM := hid HDN2.out.same
          have HL1 := HTX.out.list HTG2.out
          rw [HSM.out.1] at HL1
          refine HL1.mono ?_
          rintro e w5 ⟨p, pc, rfl, hfl, ht5, hb5⟩
          have HFL := hid hfl
          have HT5 := hid ht5
          clear hfl ht5 hb5 HTX HL1
          go_wp2_with fail
          refine (HT5.out.list2 HUG2.out).mono ?_
          rintro e w6 ⟨q, qc, rfl, hfl, ht6, hb6⟩
          have HFM := hid hfl
          have HT6 := hid ht6
          have HFL6 := hid (HFL.out.below hb6)
          clear hfl ht6 hb6 HT5 HFL
          go_wp2_with fail
          refine (SameFiles_any w6 p q pc qc _ HFL6.out HFM.out (by have := HUG2.out.few; omega)).mono ?_
          rintro e w7 ⟨rfl, mm, rfl⟩
          have HT7 := hid (HT6.out.more (below_drewN (Below.refl _ _) mm))
          have HP1 := HT7.out.peak
          rw [HSM.out.2] at HP1
          have HP := hid HP1
          clear HP1
          go_wp2_with fail
          refine HP.out.mono ?_
          rintro e w8 ⟨rfl, rfl⟩
          go_wp2_with fail
          refine HT7.out.peak2.mono ?_
          rintro e w8 ⟨rfl, rfl⟩
          go_wp2_with fail
          case roundEnd =>
            refine ⟨⟨k + 1, mk, _, _, hlt, rfl, rfl, HT7.out.forget, HTG2.out, HUG2.out, HDN2.out⟩, ?_⟩
            show l.length - ((k : Int) + 1).toNat < l.length - (k : Int).toNat
            omega
      · obtain rfl : k = l.length := by omega
        go_wp2_with fail
        refine (awake_any _).mono ?_
        rintro e wz ⟨rfl, hbz⟩
        have HZ := hid (HX.out.below.trans (hbz.mono HX.out.below.size))
        clear hbz
        go_wp2_with fail
        go_ret
        exact ⟨rfl, HZ.out⟩
end Go.Proofs.Ytnncbbfbnccnbaa
