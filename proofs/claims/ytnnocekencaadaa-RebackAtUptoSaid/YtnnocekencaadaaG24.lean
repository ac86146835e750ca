/- Backtracking's reference: the groups within a tree count as not set. -/
import Derived.Test.YtnnocekencaadaaG05
import Derived.Test.YtnnocekencaadaaG23
namespace Go.Proofs.Ytnnocekencaadaa
open Go.RowKit
attribute [local go_sem] gives givesUpon

-- def BL := [.int .i64 p.op, .int .u64 p.set.a, .int .u64 p.set.b, .int .u64 p.set.c, .int .u64 p.set.d, .int .i64 p.lo, .int .i64 p.hi, .int .i64 p.gr, .slice ad xs.length cap]
-- def BM := [.int .i64 p.op, .int .u64 p.set.a, .int .u64 p.set.b, .int .u64 p.set.c, .int .u64 p.set.d, .int .i64 p.lo, .int .i64 p.hi, .int .i64 p.gr, .slice (some ⟨b, o, none⟩) xs.length cap]
theorem unset_app (sp : Spans) (a b : List Nat) : unset sp (a ++ b) = unset (unset sp a) b := by unfold unset; rw [List.foldl_append]
set_option maxRecDepth 100000 in
set_option maxHeartbeats 8000000 in
theorem rclear_any (wb : World) (N : Nat) (hN : N ≤ 9) (t : Re) : ∀ (w : World) (cs : List Value) (pr : Nat → Prop) (sv : Value) (sp : Spans), t.In wb cs → t.ok N → Below wb.heap.size wb w → SpB pr w sv sp → sp.length = N →
    Calls Try.prog 71 #[.agg cs.toArray, sv] w fun e w' => ∃ a c, e = .returned (.slice a sp.length c) ∧ Below w.heap.size w w' ∧ SpB (w.heap.size ≤ ·) w' (.slice a sp.length c) (unset sp (withinOf t)) := by
  induction t using Re.ind with
  | h p xs ih =>
    intro w cs pr sv sp hIn hok hbw hsp hln
    rw [Re.In] at hIn
    obtain ⟨ad, cap, rfl, hwf, hlc, hcm, hnil, hall⟩ := hIn
    rw [Re.ok] at hok
    obtain ⟨-, -, -, hgr, hoks⟩ := hok
    have hml : xs.length ≤ 9223372036854775807 := by unfold maxLen at hcm; omega
    have HIH := hid ih
    have HAL := hid hall
    have HBW := hid hbw
    have HOK := hid hoks
    have HLN := hid hln
    clear ih hall hwf hbw hoks hcm hlc hnil
    simp only [Pay.cells]
    obtain ⟨i0, hi, hz0, hz1, hz2⟩ := info_parts info_span
    have q0 := (Row.new (w := w) (cs := [.int .i64 p.op, .int .u64 p.set.a, .int .u64 p.set.b, .int .u64 p.set.c, .int .u64 p.set.d, .int .i64 p.lo, .int .i64 p.hi, .int .i64 p.gr, .slice ad xs.length cap]) (T := 28) rfl).c9
    have HB := hid ((Below.refl w.heap.size w).alloc (Nat.le_refl _) (.cells #[.int .i64 p.op, .int .u64 p.set.a, .int .u64 p.set.b, .int .u64 p.set.c, .int .u64 p.set.d, .int .i64 p.lo, .int .i64 p.hi, .int .i64 p.gr, .slice ad xs.length cap] 28))
    have HRW : Hid (Row (w.alloc (.cells #[.int .i64 p.op, .int .u64 p.set.a, .int .u64 p.set.b, .int .u64 p.set.c, .int .u64 p.set.d, .int .i64 p.lo, .int .i64 p.hi, .int .i64 p.gr, .slice ad xs.length cap] 28)) w.heap.size [.int .i64 p.op, .int .u64 p.set.a, .int .u64 p.set.b, .int .u64 p.set.c, .int .u64 p.set.d, .int .i64 p.lo, .int .i64 p.hi, .int .i64 p.gr, .slice ad xs.length cap] 28) := Row.new rfl
    rcases hsp with ⟨rfl, rfl⟩ | ⟨h0, b, c, more, rfl, hp, hr⟩
    · have h6 : ¬ p.op = 6 := fun e => by have := hgr (.inl e); simp at hln; omega
      have d6 : (p.op == 6) = false := by simp [h6]
      have hW : Hid (withinOf (.mk p xs) = [] ++ withinAll xs) := by show _ = _; rw [withinOf, if_neg h6]
      have HS : Hid (SpB (w.heap.size ≤ ·) (w.alloc (.cells #[.int .i64 p.op, .int .u64 p.set.a, .int .u64 p.set.b, .int .u64 p.set.c, .int .u64 p.set.d, .int .i64 p.lo, .int .i64 p.hi, .int .i64 p.gr, .slice ad xs.length cap] 28)) (.slice none 0 0) (unset [] ([] ++ withinAll (xs.take 0))) ∧ Row (w.alloc (.cells #[.int .i64 p.op, .int .u64 p.set.a, .int .u64 p.set.b, .int .u64 p.set.c, .int .u64 p.set.d, .int .i64 p.lo, .int .i64 p.hi, .int .i64 p.gr, .slice ad xs.length cap] 28)) w.heap.size [.int .i64 p.op, .int .u64 p.set.a, .int .u64 p.set.b, .int .u64 p.set.c, .int .u64 p.set.d, .int .i64 p.lo, .int .i64 p.hi, .int .i64 p.gr, .slice ad xs.length cap] 28 ∧ Below w.heap.size w (w.alloc (.cells #[.int .i64 p.op, .int .u64 p.set.a, .int .u64 p.set.b, .int .u64 p.set.c, .int .u64 p.set.d, .int .i64 p.lo, .int .i64 p.hi, .int .i64 p.gr, .slice ad xs.length cap] 28))) := ⟨.inl ⟨by simp [unset, withinAll], rfl⟩, HRW.out, HB.out⟩
      clear h6 hgr hln
      simp only [List.length_nil]
      go_enter Try.func71, Try.ntmps71
      go_wp2_with fail
      go_loopw [5, 6] (fun v i wr => ∃ (k : Nat) (a : Option Addr) (c : Nat), k ≤ xs.length ∧ v = .slice a 0 c ∧ i = .int .i64 k ∧ Hid (SpB (w.heap.size ≤ ·) wr (.slice a 0 c) (unset [] ([] ++ withinAll (xs.take k))) ∧ Row wr w.heap.size [.int .i64 p.op, .int .u64 p.set.a, .int .u64 p.set.b, .int .u64 p.set.c, .int .u64 p.set.d, .int .i64 p.lo, .int .i64 p.hi, .int .i64 p.gr, .slice ad xs.length cap] 28 ∧ Below w.heap.size w wr)) (fun _ i _ => xs.length - (intOf i).toNat)
      case atStart =>
        exact ⟨0, _, _, Nat.zero_le _, rfl, rfl, HS.out⟩
      case round =>
        obtain ⟨k, a, c, hk, rfl, rfl, HX⟩ := hrel
        have q1 := HX.out.2.1.c9
        have hB := HX.out.2.1.lt
        have HBL : Hid (Below wb.heap.size wb wr) := HBW.out.trans (HX.out.2.2.mono HBW.out.size)
        by_cases hlt : k < xs.length
        · obtain ⟨b, o, p', ad1, n1, cap1, rfl, HC, HI0, hbb⟩ := HAL.out.kid HBL.out k hlt
          have hltI : (k : Int) < xs.length := by omega
          have hwk : IntKind.i64.wrap ((k : Int) + 1) = ((k + 1 : Nat) : Int) := by rw [IntKind.wrap_i64]; omega
          go_wp2_with (first | (with_reducible (refine wpList_load_agg rfl 28 _ rfl b (o + (k * 9)) rfl _ _ HC.out Try.underlying28 rfl (size_re9 _ _ _ _ _ _ _ _ _) ?_)))
          have HE : Hid (withinAll (xs.take (k + 1)) = withinAll (xs.take k) ++ withinOf xs[k]) := by
            show _ = _
            rw [List.take_add_one, List.getElem?_eq_getElem hlt, withinAll_app]
            simp [withinAll]
          have hul := unset_length ([] ++ withinAll (xs.take k)) []
          refine (HIH.out xs[k] (List.getElem_mem _) _ _ _ _ _ HI0.out (Re.oks_in HOK.out k hlt) HBL.out HX.out.1 (by rw [hul]; exact HLN.out)).mono ?_
          rw [hul]
          rintro e w2 ⟨a2, c2, rfl, hb2, hs2⟩
          have HX3 : Hid (SpB (w.heap.size ≤ ·) w2 (.slice a2 0 c2) (unset [] ([] ++ withinAll (xs.take (k + 1)))) ∧ Row w2 w.heap.size [.int .i64 p.op, .int .u64 p.set.a, .int .u64 p.set.b, .int .u64 p.set.c, .int .u64 p.set.d, .int .i64 p.lo, .int .i64 p.hi, .int .i64 p.gr, .slice (some ⟨b, o, none⟩) xs.length cap] 28 ∧ Below w.heap.size w w2) := by
            refine ⟨?_, HX.out.2.1.below hb2 HX.out.2.1.lt, HX.out.2.2.trans (hb2.mono HX.out.2.2.size)⟩
            rw [HE.out, ← List.append_assoc, unset_app]
            exact hs2.mono (fun b hb1 hb2 => Nat.le_trans HX.out.2.2.size hb2)
          clear hb2 hs2 hul q1
          go_wp2_with fail
          refine ⟨⟨k + 1, a2, c2, by omega, rfl, by go_num, HX3.out⟩, ?_⟩
          simp [intOf]; omega
        · obtain rfl : k = xs.length := by omega
          go_wp2_with fail
          go_ret
          have h9 := HX.out.1
          rw [List.take_length, ← hW.out] at h9
          exact ⟨a, c, rfl, HX.out.2.2, h9⟩
    · have hpos : 0 < sp.length := List.length_pos_iff.2 h0
      have HR := hid (hr.below HB.out hr.lt)
      have HH0 := hid h0
      have hl9 : sp.length ≤ 9 := by omega
      clear hr h0 hln
      go_enter Try.func71, Try.ntmps71
      go_wp2_with (at_builtin; refine wpList_append_row rfl _ _ 33 rfl (w.heap.size + 1) 44 i0 (.agg #[.int .i64 0, .int .i64 0]) 2 16 Try.underlying33 hi hz0 hz1 hz2 rfl (by decide) _ 0 [] rfl (World.ownsRow_nil _ _ _ _) ⟨b, 0, none⟩ sp.length c (spc sp) rfl (spc_length sp) ?c1 ?c2 ?c3 ?c4 ?c5 hpos ?_)
      case c1 =>
        intro j u hj
        rw [Addr.add_lit, Nat.zero_add, HR.out.cell j]
        exact List.getElem?_append_left (List.getElem?_eq_some_iff.1 hj).1 ▸ hj
      case c2 => exact spc_one sp
      case c3 => unfold maxLen; omega
      case c4 => omega
      case c5 => simp
      intro a2 c2 w3 hown hgrow hnw
      have HS0 : Hid (SpB (w.heap.size + 1 ≤ ·) w3 (.slice a2 sp.length c2) sp ∧ Row w3 w.heap.size [.int .i64 p.op, .int .u64 p.set.a, .int .u64 p.set.b, .int .u64 p.set.c, .int .u64 p.set.d, .int .i64 p.lo, .int .i64 p.hi, .int .i64 p.gr, .slice ad xs.length cap] 28 ∧ Below w.heap.size w w3) := by
        refine ⟨SpB.own hown (by simp) HH0.out, ?_, ?_⟩
        · exact (hgrow.block w.heap.size (by simp) (by simp [Value.ownBlock])).trans HRW.out
        · exact HB.out.grown hgrow (by simp) (fun g hg => by simp [Value.ownBlock] at hg)
      clear hown hgrow hnw q0
      have q0 := HS0.out.2.1.c9
      by_cases h6 : p.op = 6
      · have d6 : (p.op == 6) = true := by simp [h6]
        have hg1 := hgr (.inl h6)
        rw [← HLN.out] at hg1
        have hW : Hid (withinOf (.mk p xs) = [p.gr.toNat] ++ withinAll xs) := by show _ = _; rw [withinOf, if_pos h6]
        obtain ⟨g, hge, hgl⟩ : ∃ g : Nat, p.gr - 1 = (g : Int) ∧ g < sp.length := ⟨(p.gr - 1).toNat, by omega, by omega⟩
        have hgi : (g : Int) < (sp.length : Int) := by omega
        have hgk : p.gr.toNat - 1 = g := by omega
        have hg9 : p.gr ≤ 9 := by have := HLN.out; omega
        have d1 : decide (1 ≤ p.gr) = true := by simp; omega
        have d2 : decide (p.gr ≤ (sp.length : Int)) = true := by simp; omega
        rcases HS0.out.1 with ⟨h0, -⟩ | ⟨hne, b1, c1', more1, e, hb2, hrow⟩
        · exact absurd h0 HH0.out
        injection e with e1 _ e2
        subst e1
        clear e2
        have hx := spc_get sp g sp[g] (by simp [hgl])
        have hsl := spc_length sp
        have s0 := hrow.cell (g * 2)
        have s1 := hrow.cell (g * 2 + 1)
        rw [List.getElem?_append_left (by omega), show g * 2 = 2 * g by omega, hx.1, show 2 * g = g * 2 by omega] at s0
        rw [List.getElem?_append_left (by omega), show g * 2 + 1 = 2 * g + 1 by omega, hx.2, show 2 * g + 1 = g * 2 + 1 by omega] at s1
        have f0 := hrow.free (g * 2)
        have f1 := hrow.free (g * 2 + 1)
        have HROW := hid hrow
        have HGK := hid hgk
        have HS : Hid (SpB (w.heap.size ≤ ·) ((w3.setCell ⟨b1, g * 2, none⟩ (.int .i64 (-1))).setCell ⟨b1, g * 2 + 1, none⟩ (.int .i64 (-1))) (.slice (some ⟨b1, 0, none⟩) sp.length c2) (unset sp ([p.gr.toNat] ++ withinAll (xs.take 0))) ∧ Row ((w3.setCell ⟨b1, g * 2, none⟩ (.int .i64 (-1))).setCell ⟨b1, g * 2 + 1, none⟩ (.int .i64 (-1))) w.heap.size [.int .i64 p.op, .int .u64 p.set.a, .int .u64 p.set.b, .int .u64 p.set.c, .int .u64 p.set.d, .int .i64 p.lo, .int .i64 p.hi, .int .i64 p.gr, .slice ad xs.length cap] 28 ∧ Below w.heap.size w ((w3.setCell ⟨b1, g * 2, none⟩ (.int .i64 (-1))).setCell ⟨b1, g * 2 + 1, none⟩ (.int .i64 (-1)))) := by
          have hb3 : w.heap.size + 1 ≤ b1 := hb2
          refine ⟨.inr ⟨?_, b1, c2, more1, ?_, Nat.le_of_succ_le hb3, ?_⟩, ?_, ?_⟩
          · intro e; have := congrArg List.length e; rw [unset_length, List.length_nil] at this; omega
          · rw [unset_length]
          · have he : unset sp ([p.gr.toNat] ++ withinAll (xs.take 0)) = sp.set g (-1, -1) := by
              rw [List.take_zero, withinAll, List.append_nil]
              show sp.set (p.gr.toNat - 1) (-1, -1) = _
              rw [HGK.out]
            rw [he]
            exact HROW.out.span hgl (-1, -1)
          · exact HS0.out.2.1.but (S := [b1]) (((But.refl _ _).setCell (p := ⟨b1, g * 2, none⟩) (.inl (by simp)) _).setCell (p := ⟨b1, g * 2 + 1, none⟩) (.inl (by simp)) _) (by simp; omega)
          · exact (HS0.out.2.2.setCell (p := ⟨b1, g * 2, none⟩) (by show _ ≤ b1; omega) _).setCell (p := ⟨b1, g * 2 + 1, none⟩) (by show _ ≤ b1; omega) _
        clear h6 hx hrow hsl hb2 hgk HROW
        generalize sp[g] = x0 at *
        go_wp2_with fail
        clear s0 s1 f0 f1 q0
        have q0 := HS.out.2.1.c9
        go_loopw [5, 6] (fun v i wr => ∃ (k : Nat) (a : Option Addr) (c : Nat), k ≤ xs.length ∧ v = .slice a sp.length c ∧ i = .int .i64 k ∧ Hid (SpB (w.heap.size ≤ ·) wr (.slice a sp.length c) (unset sp ([p.gr.toNat] ++ withinAll (xs.take k))) ∧ Row wr w.heap.size [.int .i64 p.op, .int .u64 p.set.a, .int .u64 p.set.b, .int .u64 p.set.c, .int .u64 p.set.d, .int .i64 p.lo, .int .i64 p.hi, .int .i64 p.gr, .slice ad xs.length cap] 28 ∧ Below w.heap.size w wr)) (fun _ i _ => xs.length - (intOf i).toNat)
        case atStart =>
          exact ⟨0, _, _, Nat.zero_le _, rfl, rfl, HS.out⟩
        case round =>
          obtain ⟨k, a, c, hk, rfl, rfl, HX⟩ := hrel
          have q1 := HX.out.2.1.c9
          have hB := HX.out.2.1.lt
          have HBL : Hid (Below wb.heap.size wb wr) := HBW.out.trans (HX.out.2.2.mono HBW.out.size)
          by_cases hlt : k < xs.length
          · obtain ⟨b, o, p', ad1, n1, cap1, rfl, HC, HI0, hbb⟩ := HAL.out.kid HBL.out k hlt
            have hltI : (k : Int) < xs.length := by omega
            have hwk : IntKind.i64.wrap ((k : Int) + 1) = ((k + 1 : Nat) : Int) := by rw [IntKind.wrap_i64]; omega
            go_wp2_with (first | (with_reducible (refine wpList_load_agg rfl 28 _ rfl b (o + (k * 9)) rfl _ _ HC.out Try.underlying28 rfl (size_re9 _ _ _ _ _ _ _ _ _) ?_)))
            have HE : Hid (withinAll (xs.take (k + 1)) = withinAll (xs.take k) ++ withinOf xs[k]) := by
              show _ = _
              rw [List.take_add_one, List.getElem?_eq_getElem hlt, withinAll_app]
              simp [withinAll]
            have hul := unset_length ([p.gr.toNat] ++ withinAll (xs.take k)) sp
            refine (HIH.out xs[k] (List.getElem_mem _) _ _ _ _ _ HI0.out (Re.oks_in HOK.out k hlt) HBL.out HX.out.1 (by rw [hul]; exact HLN.out)).mono ?_
            rw [hul]
            rintro e w2 ⟨a2, c2, rfl, hb2, hs2⟩
            have HX3 : Hid (SpB (w.heap.size ≤ ·) w2 (.slice a2 sp.length c2) (unset sp ([p.gr.toNat] ++ withinAll (xs.take (k + 1)))) ∧ Row w2 w.heap.size [.int .i64 p.op, .int .u64 p.set.a, .int .u64 p.set.b, .int .u64 p.set.c, .int .u64 p.set.d, .int .i64 p.lo, .int .i64 p.hi, .int .i64 p.gr, .slice (some ⟨b, o, none⟩) xs.length cap] 28 ∧ Below w.heap.size w w2) := by
              refine ⟨?_, HX.out.2.1.below hb2 HX.out.2.1.lt, HX.out.2.2.trans (hb2.mono HX.out.2.2.size)⟩
              rw [HE.out, ← List.append_assoc, unset_app]
              exact hs2.mono (fun b hb1 hb2 => Nat.le_trans HX.out.2.2.size hb2)
            clear hb2 hs2 hul q1
            go_wp2_with fail
            refine ⟨⟨k + 1, a2, c2, by omega, rfl, by go_num, HX3.out⟩, ?_⟩
            simp [intOf]; omega
          · obtain rfl : k = xs.length := by omega
            go_wp2_with fail
            go_ret
            have h9 := HX.out.1
            rw [List.take_length, ← hW.out] at h9
            exact ⟨a, c, rfl, HX.out.2.2, h9⟩
      · have d6 : (p.op == 6) = false := by simp [h6]
        have hW : Hid (withinOf (.mk p xs) = [] ++ withinAll xs) := by show _ = _; rw [withinOf, if_neg h6]
        have HS : Hid (SpB (w.heap.size ≤ ·) w3 (.slice a2 sp.length c2) (unset sp ([] ++ withinAll (xs.take 0))) ∧ Row w3 w.heap.size [.int .i64 p.op, .int .u64 p.set.a, .int .u64 p.set.b, .int .u64 p.set.c, .int .u64 p.set.d, .int .i64 p.lo, .int .i64 p.hi, .int .i64 p.gr, .slice ad xs.length cap] 28 ∧ Below w.heap.size w w3) := ⟨HS0.out.1.mono (fun b _ hb => by omega), HS0.out.2⟩
        clear h6
        go_wp2_with fail
        go_loopw [5, 6] (fun v i wr => ∃ (k : Nat) (a : Option Addr) (c : Nat), k ≤ xs.length ∧ v = .slice a sp.length c ∧ i = .int .i64 k ∧ Hid (SpB (w.heap.size ≤ ·) wr (.slice a sp.length c) (unset sp ([] ++ withinAll (xs.take k))) ∧ Row wr w.heap.size [.int .i64 p.op, .int .u64 p.set.a, .int .u64 p.set.b, .int .u64 p.set.c, .int .u64 p.set.d, .int .i64 p.lo, .int .i64 p.hi, .int .i64 p.gr, .slice ad xs.length cap] 28 ∧ Below w.heap.size w wr)) (fun _ i _ => xs.length - (intOf i).toNat)
        case atStart =>
          exact ⟨0, _, _, Nat.zero_le _, rfl, rfl, HS.out⟩
        case round =>
          obtain ⟨k, a, c, hk, rfl, rfl, HX⟩ := hrel
          have q1 := HX.out.2.1.c9
          have hB := HX.out.2.1.lt
          have HBL : Hid (Below wb.heap.size wb wr) := HBW.out.trans (HX.out.2.2.mono HBW.out.size)
          by_cases hlt : k < xs.length
          · obtain ⟨b, o, p', ad1, n1, cap1, rfl, HC, HI0, hbb⟩ := HAL.out.kid HBL.out k hlt
            have hltI : (k : Int) < xs.length := by omega
            have hwk : IntKind.i64.wrap ((k : Int) + 1) = ((k + 1 : Nat) : Int) := by rw [IntKind.wrap_i64]; omega
            go_wp2_with (first | (with_reducible (refine wpList_load_agg rfl 28 _ rfl b (o + (k * 9)) rfl _ _ HC.out Try.underlying28 rfl (size_re9 _ _ _ _ _ _ _ _ _) ?_)))
            have HE : Hid (withinAll (xs.take (k + 1)) = withinAll (xs.take k) ++ withinOf xs[k]) := by
              show _ = _
              rw [List.take_add_one, List.getElem?_eq_getElem hlt, withinAll_app]
              simp [withinAll]
            have hul := unset_length ([] ++ withinAll (xs.take k)) sp
            refine (HIH.out xs[k] (List.getElem_mem _) _ _ _ _ _ HI0.out (Re.oks_in HOK.out k hlt) HBL.out HX.out.1 (by rw [hul]; exact HLN.out)).mono ?_
            rw [hul]
            rintro e w2 ⟨a2, c2, rfl, hb2, hs2⟩
            have HX3 : Hid (SpB (w.heap.size ≤ ·) w2 (.slice a2 sp.length c2) (unset sp ([] ++ withinAll (xs.take (k + 1)))) ∧ Row w2 w.heap.size [.int .i64 p.op, .int .u64 p.set.a, .int .u64 p.set.b, .int .u64 p.set.c, .int .u64 p.set.d, .int .i64 p.lo, .int .i64 p.hi, .int .i64 p.gr, .slice (some ⟨b, o, none⟩) xs.length cap] 28 ∧ Below w.heap.size w w2) := by
              refine ⟨?_, HX.out.2.1.below hb2 HX.out.2.1.lt, HX.out.2.2.trans (hb2.mono HX.out.2.2.size)⟩
              rw [HE.out, ← List.append_assoc, unset_app]
              exact hs2.mono (fun b hb1 hb2 => Nat.le_trans HX.out.2.2.size hb2)
            clear hb2 hs2 hul q1
            go_wp2_with fail
            refine ⟨⟨k + 1, a2, c2, by omega, rfl, by go_num, HX3.out⟩, ?_⟩
            simp [intOf]; omega
          · obtain rfl : k = xs.length := by omega
            go_wp2_with fail
            go_ret
            have h9 := HX.out.1
            rw [List.take_length, ← hW.out] at h9
            exact ⟨a, c, rfl, HX.out.2.2, h9⟩
end Go.Proofs.Ytnnocekencaadaa
