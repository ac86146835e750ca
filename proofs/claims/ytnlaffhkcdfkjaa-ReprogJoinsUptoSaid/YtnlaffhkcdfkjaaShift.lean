/- The law's shifted: instructions with moved targets. -/
import Derived.Test.YtnlaffhkcdfkjaaRCode
import Derived.Test.YtnlaffhkcdfkjaaJoinLaw
namespace Go.Proofs.Ytnlaffhkcdfkjaa
open Go.RowKit
attribute [local go_sem] gives givesUpon

/-- Are the targets small? -/
def Inst.small (i : Inst) : Prop := (i.op = 2 ∨ i.op = 3 → 0 ≤ i.x ∧ i.x ≤ 100000) ∧ (i.op = 2 → 0 ≤ i.y ∧ i.y ≤ 100000)
set_option maxRecDepth 100000 in
set_option maxHeartbeats 4000000 in
theorem shifted_any (w : World) (b : Nat) (v : Value) (L : List Inst) (d : Nat) (h : OwnI w b v L) (hL : L.length ≤ 100000) (hd : d ≤ 100000) (hs : ∀ k (hk : k < L.length), L[k].small) :
    Calls Try.prog 14 #[v, .int .i64 d] w fun e w' => ∃ a n c, e = .returned (.slice a n c) ∧ OwnI w' w.heap.size (.slice a n c) (L.map (Inst.shift d)) ∧ Below w.heap.size w w' := by
  obtain ⟨a0, c0, rfl⟩ := h.form
  have H := hid h
  have HS := hid hs
  clear h hs
  go_enter Try.func14, Try.ntmps14
  go_wp2_with fail
  go_loopw [5, 6] (fun o i wr => ∃ (k : Nat) (a : Option Addr) (c : Nat) (L' : List Inst), k ≤ L.length ∧ o = .slice a k c ∧ i = .int .i64 k ∧ Hid (L' = (L.take k).map (Inst.shift d)) ∧ Hid (OwnI wr w.heap.size (.slice a k c) L' ∧ Below w.heap.size w wr)) (fun _ i _ => L.length - (intOf i).toNat)
  case atStart => exact ⟨0, none, 0, [], by omega, rfl, rfl, rfl, OwnI.nil _ _, Below.refl _ _⟩
  case round =>
    obtain ⟨k, a, c, L', hk, rfl, rfl, HL, HX⟩ := hrel
    have hwr := HX.out.2.size
    rcases Nat.lt_or_ge k L.length with hlt | hge
    · have hk1 : L[k]? = some L[k] := List.getElem?_eq_getElem hlt
      obtain ⟨-, g1, rfl, k1, k2, k3, -, -, -⟩ := (H.out.below HX.out.2).elem k _ hk1
      have hsm := HS.out k hlt
      have HN : Hid ((L.take (k + 1)).map (Inst.shift d) = (L.take k).map (Inst.shift d) ++ [Inst.shift d L[k]]) := by
        show _ = _
        rw [List.take_add_one, hk1, List.map_append]
        rfl
      generalize L[k] = f at *
      have HC : Hid (CellsAt wr g1 (k * 7) [.int .i64 f.op, .int .u64 f.set.a, .int .u64 f.set.b, .int .u64 f.set.c, .int .u64 f.set.d, .int .i64 f.x, .int .i64 f.y]) := k3
      have HA : Hid (Row (wr.alloc (.cells #[.int .i64 f.op, .int .u64 f.set.a, .int .u64 f.set.b, .int .u64 f.set.c, .int .u64 f.set.d, .int .i64 f.x, .int .i64 f.y] 39)) wr.heap.size [.int .i64 f.op, .int .u64 f.set.a, .int .u64 f.set.b, .int .u64 f.set.c, .int .u64 f.set.d, .int .i64 f.x, .int .i64 f.y] 39) := Row.new rfl
      have HBA : Hid (Below wr.heap.size wr (wr.alloc (.cells #[.int .i64 f.op, .int .u64 f.set.a, .int .u64 f.set.b, .int .u64 f.set.c, .int .u64 f.set.d, .int .i64 f.x, .int .i64 f.y] 39))) := (Below.refl _ wr).alloc (Nat.le_refl _) _
      clear hk1 k1 k2 k3
      rcases (show f.op = 2 ∨ f.op = 3 ∨ (f.op ≠ 2 ∧ f.op ≠ 3) by omega) with ho | ho | ho
      · have hsx := hsm.1 (.inl ho)
        have hsy := hsm.2 ho
        have d2 : (f.op == 2) = true := by simpa using ho
        have HE : Hid (Inst.shift d f = ⟨f.op, f.set, (f.x + d), (f.y + d)⟩) := by
          show _ = _
          unfold Inst.shift
          simp [ho]
        clear ho hsm
        go_upto_region 6 with (first | (with_reducible (refine wpList_load_agg rfl 39 _ rfl g1 (k * 7) rfl _ _ HC.out Try.underlying39 rfl (size_inst7 _ _ _ _ _ _ _) ?_)))
        generalize hy0 : (wr.alloc (.cells #[.int .i64 f.op, .int .u64 f.set.a, .int .u64 f.set.b, .int .u64 f.set.c, .int .u64 f.set.d, .int .i64 f.x, .int .i64 f.y] 39)) = y0 at HA HBA ⊢
        clear hy0
        have q1 := HA.out.c7f
        have z1 := HA.out.lt
        have HY : Hid (Row ((y0.setCell ⟨wr.heap.size, 5, none⟩ (.int .i64 ((f.x + d)))).setCell ⟨wr.heap.size, 6, none⟩ (.int .i64 ((f.y + d)))) wr.heap.size [.int .i64 f.op, .int .u64 f.set.a, .int .u64 f.set.b, .int .u64 f.set.c, .int .u64 f.set.d, .int .i64 (f.x + d), .int .i64 (f.y + d)] 39 ∧ Below wr.heap.size wr ((y0.setCell ⟨wr.heap.size, 5, none⟩ (.int .i64 ((f.x + d)))).setCell ⟨wr.heap.size, 6, none⟩ (.int .i64 ((f.y + d))))) := ⟨((HA.out.set 5 (.int .i64 (f.x + d))).set 6 (.int .i64 (f.y + d))), ((HBA.out.setCell (Nat.le_refl _) (.int .i64 (f.x + d))).setCell (Nat.le_refl _) (.int .i64 (f.y + d)))⟩
        go_upto_region 10 with fail
        generalize hy : ((y0.setCell ⟨wr.heap.size, 5, none⟩ (.int .i64 ((f.x + d)))).setCell ⟨wr.heap.size, 6, none⟩ (.int .i64 ((f.y + d)))) = y at HY ⊢
        clear hy q1 z1 HA HBA
        have q1 := HY.out.1.c7f
        have z1 := HY.out.1.lt
        have HOY := hid (HX.out.1.below HY.out.2)
        have hyw := HY.out.2.size
        obtain ⟨i0, hi, hz0, hz1, hz2⟩ := info_parts info_inst
        go_wp2_with (at_builtin; refine wpList_append_row rfl _ _ 29 rfl w.heap.size 39 i0 (.agg #[.int .i64 0, .int .u64 0, .int .u64 0, .int .u64 0, .int .u64 0, .int .i64 0, .int .i64 0]) 7 56 Try.underlying29 hi hz0 hz1 hz2 rfl (by decide) _ k ((L').flatMap Inst.cells) rfl (by exact HOY.out.row.alloc _) ⟨y.heap.size, 0, none⟩ 1 1 [.int .i64 f.op, .int .u64 f.set.a, .int .u64 f.set.b, .int .u64 f.set.c, .int .u64 f.set.d, .int .i64 (f.x + d), .int .i64 (f.y + d)] rfl rfl ?c1 ?c2 ?c3 ?c4 ?c5 (by decide) ?_)
        case c1 =>
          intro j u hj
          rw [Addr.add_lit, Nat.zero_add]
          exact (Row.new (w := y) (cs := [.int .i64 f.op, .int .u64 f.set.a, .int .u64 f.set.b, .int .u64 f.set.c, .int .u64 f.set.d, .int .i64 (f.x + d), .int .i64 (f.y + d)]) (T := 39) rfl).cell j ▸ hj
        case c2 => intro u hu; simp at hu; rcases hu with rfl | rfl | rfl | rfl | rfl | rfl | rfl <;> rfl
        case c3 => unfold maxLen; omega
        case c4 => omega
        case c5 => simp; omega
        intro a1 c1 w1 hown hgrow hnw
        obtain ⟨L1, hL1, hQ1⟩ := (OwnI.grew (I := ⟨f.op, f.set, (f.x + d), (f.y + d)⟩) HOY.out (.cells #[.int .i64 f.op, .int .u64 f.set.a, .int .u64 f.set.b, .int .u64 f.set.c, .int .u64 f.set.d, .int .i64 (f.x + d), .int .i64 (f.y + d)] 39) hown hgrow (fun g hg => (hnw g hg).imp id fun h => (by (try simp at h) <;> (try simp) <;> omega)))
        have HL1 := hid hL1
        have HQ1 := hid hQ1
        clear hL1 hQ1 hown hgrow hnw hi hz0 hz1 hz2
        clear i0
        have HB1 : Hid (Below w.heap.size w w1) := (HX.out.2.trans (HY.out.2.mono hwr)).trans (HQ1.out.2.2.below (Nat.le_trans hwr hyw) (fun g hg => (HOY.out.lt g hg).1))
        go_wp2_with fail
        go_roundw
        case rel => exact ⟨k + 1, a1, c1, L1, by omega, rfl, by go_num, (by show _ = _; rw [HL1.out, HL.out, HN.out, HE.out]), HQ1.out.1, HB1.out⟩
        case measure => simp [intOf]; omega
      · have hsx := hsm.1 (.inr ho)
        have d2 : (f.op == 2) = false := by simp [ho]
        have d3 : (f.op == 3) = true := by simpa using ho
        have HE : Hid (Inst.shift d f = ⟨f.op, f.set, (f.x + d), f.y⟩) := by
          show _ = _
          unfold Inst.shift
          simp [ho]
        clear ho hsm
        go_upto_region 6 with (first | (with_reducible (refine wpList_load_agg rfl 39 _ rfl g1 (k * 7) rfl _ _ HC.out Try.underlying39 rfl (size_inst7 _ _ _ _ _ _ _) ?_)))
        generalize hy0 : (wr.alloc (.cells #[.int .i64 f.op, .int .u64 f.set.a, .int .u64 f.set.b, .int .u64 f.set.c, .int .u64 f.set.d, .int .i64 f.x, .int .i64 f.y] 39)) = y0 at HA HBA ⊢
        clear hy0
        have q1 := HA.out.c7f
        have z1 := HA.out.lt
        have HY : Hid (Row (y0.setCell ⟨wr.heap.size, 5, none⟩ (.int .i64 ((f.x + d)))) wr.heap.size [.int .i64 f.op, .int .u64 f.set.a, .int .u64 f.set.b, .int .u64 f.set.c, .int .u64 f.set.d, .int .i64 (f.x + d), .int .i64 f.y] 39 ∧ Below wr.heap.size wr (y0.setCell ⟨wr.heap.size, 5, none⟩ (.int .i64 ((f.x + d))))) := ⟨(HA.out.set 5 (.int .i64 (f.x + d))), (HBA.out.setCell (Nat.le_refl _) (.int .i64 (f.x + d)))⟩
        go_upto_region 10 with fail
        generalize hy : (y0.setCell ⟨wr.heap.size, 5, none⟩ (.int .i64 ((f.x + d)))) = y at HY ⊢
        clear hy q1 z1 HA HBA
        have q1 := HY.out.1.c7f
        have z1 := HY.out.1.lt
        have HOY := hid (HX.out.1.below HY.out.2)
        have hyw := HY.out.2.size
        obtain ⟨i0, hi, hz0, hz1, hz2⟩ := info_parts info_inst
        go_wp2_with (at_builtin; refine wpList_append_row rfl _ _ 29 rfl w.heap.size 39 i0 (.agg #[.int .i64 0, .int .u64 0, .int .u64 0, .int .u64 0, .int .u64 0, .int .i64 0, .int .i64 0]) 7 56 Try.underlying29 hi hz0 hz1 hz2 rfl (by decide) _ k ((L').flatMap Inst.cells) rfl (by exact HOY.out.row.alloc _) ⟨y.heap.size, 0, none⟩ 1 1 [.int .i64 f.op, .int .u64 f.set.a, .int .u64 f.set.b, .int .u64 f.set.c, .int .u64 f.set.d, .int .i64 (f.x + d), .int .i64 f.y] rfl rfl ?c1 ?c2 ?c3 ?c4 ?c5 (by decide) ?_)
        case c1 =>
          intro j u hj
          rw [Addr.add_lit, Nat.zero_add]
          exact (Row.new (w := y) (cs := [.int .i64 f.op, .int .u64 f.set.a, .int .u64 f.set.b, .int .u64 f.set.c, .int .u64 f.set.d, .int .i64 (f.x + d), .int .i64 f.y]) (T := 39) rfl).cell j ▸ hj
        case c2 => intro u hu; simp at hu; rcases hu with rfl | rfl | rfl | rfl | rfl | rfl | rfl <;> rfl
        case c3 => unfold maxLen; omega
        case c4 => omega
        case c5 => simp; omega
        intro a1 c1 w1 hown hgrow hnw
        obtain ⟨L1, hL1, hQ1⟩ := (OwnI.grew (I := ⟨f.op, f.set, (f.x + d), f.y⟩) HOY.out (.cells #[.int .i64 f.op, .int .u64 f.set.a, .int .u64 f.set.b, .int .u64 f.set.c, .int .u64 f.set.d, .int .i64 (f.x + d), .int .i64 f.y] 39) hown hgrow (fun g hg => (hnw g hg).imp id fun h => (by (try simp at h) <;> (try simp) <;> omega)))
        have HL1 := hid hL1
        have HQ1 := hid hQ1
        clear hL1 hQ1 hown hgrow hnw hi hz0 hz1 hz2
        clear i0
        have HB1 : Hid (Below w.heap.size w w1) := (HX.out.2.trans (HY.out.2.mono hwr)).trans (HQ1.out.2.2.below (Nat.le_trans hwr hyw) (fun g hg => (HOY.out.lt g hg).1))
        go_wp2_with fail
        go_roundw
        case rel => exact ⟨k + 1, a1, c1, L1, by omega, rfl, by go_num, (by show _ = _; rw [HL1.out, HL.out, HN.out, HE.out]), HQ1.out.1, HB1.out⟩
        case measure => simp [intOf]; omega
      · skip
        have d2 : (f.op == 2) = false := by simpa using ho.1
        have d3 : (f.op == 3) = false := by simpa using ho.2
        have HE : Hid (Inst.shift d f = ⟨f.op, f.set, f.x, f.y⟩) := by
          show _ = _
          unfold Inst.shift
          simp [ho]
        clear ho hsm
        go_upto_region 6 with (first | (with_reducible (refine wpList_load_agg rfl 39 _ rfl g1 (k * 7) rfl _ _ HC.out Try.underlying39 rfl (size_inst7 _ _ _ _ _ _ _) ?_)))
        generalize hy0 : (wr.alloc (.cells #[.int .i64 f.op, .int .u64 f.set.a, .int .u64 f.set.b, .int .u64 f.set.c, .int .u64 f.set.d, .int .i64 f.x, .int .i64 f.y] 39)) = y0 at HA HBA ⊢
        clear hy0
        have q1 := HA.out.c7f
        have z1 := HA.out.lt
        have HY : Hid (Row y0 wr.heap.size [.int .i64 f.op, .int .u64 f.set.a, .int .u64 f.set.b, .int .u64 f.set.c, .int .u64 f.set.d, .int .i64 f.x, .int .i64 f.y] 39 ∧ Below wr.heap.size wr y0) := ⟨HA.out, HBA.out⟩
        go_upto_region 10 with fail
        generalize hy : y0 = y at HY ⊢
        clear hy q1 z1 HA HBA
        have q1 := HY.out.1.c7f
        have z1 := HY.out.1.lt
        have HOY := hid (HX.out.1.below HY.out.2)
        have hyw := HY.out.2.size
        obtain ⟨i0, hi, hz0, hz1, hz2⟩ := info_parts info_inst
        go_wp2_with (at_builtin; refine wpList_append_row rfl _ _ 29 rfl w.heap.size 39 i0 (.agg #[.int .i64 0, .int .u64 0, .int .u64 0, .int .u64 0, .int .u64 0, .int .i64 0, .int .i64 0]) 7 56 Try.underlying29 hi hz0 hz1 hz2 rfl (by decide) _ k ((L').flatMap Inst.cells) rfl (by exact HOY.out.row.alloc _) ⟨y.heap.size, 0, none⟩ 1 1 [.int .i64 f.op, .int .u64 f.set.a, .int .u64 f.set.b, .int .u64 f.set.c, .int .u64 f.set.d, .int .i64 f.x, .int .i64 f.y] rfl rfl ?c1 ?c2 ?c3 ?c4 ?c5 (by decide) ?_)
        case c1 =>
          intro j u hj
          rw [Addr.add_lit, Nat.zero_add]
          exact (Row.new (w := y) (cs := [.int .i64 f.op, .int .u64 f.set.a, .int .u64 f.set.b, .int .u64 f.set.c, .int .u64 f.set.d, .int .i64 f.x, .int .i64 f.y]) (T := 39) rfl).cell j ▸ hj
        case c2 => intro u hu; simp at hu; rcases hu with rfl | rfl | rfl | rfl | rfl | rfl | rfl <;> rfl
        case c3 => unfold maxLen; omega
        case c4 => omega
        case c5 => simp; omega
        intro a1 c1 w1 hown hgrow hnw
        obtain ⟨L1, hL1, hQ1⟩ := (OwnI.grew (I := ⟨f.op, f.set, f.x, f.y⟩) HOY.out (.cells #[.int .i64 f.op, .int .u64 f.set.a, .int .u64 f.set.b, .int .u64 f.set.c, .int .u64 f.set.d, .int .i64 f.x, .int .i64 f.y] 39) hown hgrow (fun g hg => (hnw g hg).imp id fun h => (by (try simp at h) <;> (try simp) <;> omega)))
        have HL1 := hid hL1
        have HQ1 := hid hQ1
        clear hL1 hQ1 hown hgrow hnw hi hz0 hz1 hz2
        clear i0
        have HB1 : Hid (Below w.heap.size w w1) := (HX.out.2.trans (HY.out.2.mono hwr)).trans (HQ1.out.2.2.below (Nat.le_trans hwr hyw) (fun g hg => (HOY.out.lt g hg).1))
        go_wp2_with fail
        go_roundw
        case rel => exact ⟨k + 1, a1, c1, L1, by omega, rfl, by go_num, (by show _ = _; rw [HL1.out, HL.out, HN.out, HE.out]), HQ1.out.1, HB1.out⟩
        case measure => simp [intOf]; omega
    · obtain rfl : k = L.length := by omega
      have HR : Hid (OwnI wr w.heap.size (.slice a L.length c) (L.map (Inst.shift d))) := by
        have h := HX.out.1
        rw [HL.out, List.take_length] at h
        exact h
      go_wp2_with fail
      go_ret
      exact ⟨_, _, _, rfl, HR.out, HX.out.2⟩
end Go.Proofs.Ytnlaffhkcdfkjaa
