/- The law's plain: does a tree have only the repetitions that stay? -/
import Derived.Test.YtibfnmkeghkdpaaKeepLaw
namespace Go.Proofs.Ytibfnmkeghkdpaa
open Go.RowKit
attribute [local go_sem] gives givesUpon

theorem Re.plains_take : ∀ (xs : List Re) (k : Nat) (a : Re), xs[k]? = some a → Re.plains (xs.take (k + 1)) = (Re.plains (xs.take k) && a.plain)
  | t :: ts, 0, a, h => by simp at h; subst h; simp [Re.plains]
  | t :: ts, k + 1, a, h => by
    rw [List.take_succ_cons, List.take_succ_cons, Re.plains, Re.plains, Re.plains_take ts k a (by simpa using h), Bool.and_assoc]
theorem Re.plains_get : ∀ (xs : List Re) (k : Nat) (a : Re), xs[k]? = some a → a.plain = false → Re.plains xs = false
  | t :: ts, 0, a, h, hf => by simp at h; subst h; simp [Re.plains, hf]
  | t :: ts, k + 1, a, h, hf => by rw [Re.plains, Re.plains_get ts k a (by simpa using h) hf]; simp

set_option maxRecDepth 100000 in
set_option maxHeartbeats 8000000 in
theorem plain_any (t : Re) : ∀ (w : World) (cs : List Value), t.In w cs → t.size ≤ 1048576 →
    Calls Try.prog 30 #[.agg cs.toArray] w fun e w' => e = .returned (.bool t.plain) ∧ Below w.heap.size w w' := by
  induction t using Re.ind with
  | h p xs ih =>
    intro w cs hIn hsz
    rw [Re.In] at hIn
    obtain ⟨ad, cap, rfl, hwf, hlc, hcm, hnil, hall⟩ := hIn
    rw [Re.size_mk] at hsz
    have hlen := Re.sizes_len xs
    have HIH := hid ih
    have HAL := hid hall
    have HBA : Hid (Below (w.heap.size + 1) (w.alloc (.cells #[.int .i64 p.op, .int .u64 p.set.a, .int .u64 p.set.b, .int .u64 p.set.c, .int .u64 p.set.d, .int .i64 p.lo, .int .i64 p.hi, .int .i64 p.gr, .slice ad xs.length cap] 28)) (w.alloc (.cells #[.int .i64 p.op, .int .u64 p.set.a, .int .u64 p.set.b, .int .u64 p.set.c, .int .u64 p.set.d, .int .i64 p.lo, .int .i64 p.hi, .int .i64 p.gr, .slice ad xs.length cap] 28))) := Below.refl _ _
    have HBW := hid ((Below.refl w.heap.size w).alloc (Nat.le_refl _) (.cells #[.int .i64 p.op, .int .u64 p.set.a, .int .u64 p.set.b, .int .u64 p.set.c, .int .u64 p.set.d, .int .i64 p.lo, .int .i64 p.hi, .int .i64 p.gr, .slice ad xs.length cap] 28))
    clear ih hall hwf
    simp only [Pay.cells]
    by_cases h5 : p.op = 5
    · skip
      by_cases l0 : p.lo = 0
      · skip
        by_cases i1 : p.hi = 1
        · skip
          have HPS : Hid (decide (p.op = 5 → (p.lo = 0 ∧ p.hi = 1) ∨ ((p.lo = 0 ∨ p.lo = 1) ∧ p.hi = -1)) = true) := hid (decide_eq_true (by omega))
          have oh5 : (p.op == 5) = true := by simp [h5]
          have ol0 : (p.lo == 0) = true := by simp [l0]
          have oi1 : (p.hi == 1) = true := by simp [i1]
          clear h5 l0 i1
          go_enter Try.func30, Try.ntmps30
          go_wp2_with fail
          go_loopw [3] (fun i wr => ∃ k : Nat, k ≤ xs.length ∧ i = .int .i64 k ∧ Hid (Re.plains (xs.take k) = true) ∧ Below (w.heap.size + 1) (w.alloc (.cells #[.int .i64 p.op, .int .u64 p.set.a, .int .u64 p.set.b, .int .u64 p.set.c, .int .u64 p.set.d, .int .i64 p.lo, .int .i64 p.hi, .int .i64 p.gr, .slice ad xs.length cap] 28)) wr) (fun i _ => xs.length - (intOf i).toNat)
          case atStart => exact ⟨0, by omega, rfl, rfl, HBA.out⟩
          case round =>
            obtain ⟨k, hk, rfl, hz, hbw⟩ := hrel
            obtain ⟨hbx, hbl, hlt0⟩ := box_facts hbw
            have q := hbx.c9
            have HBW2 := hid hbw
            have HBL := hid hbl
            clear hbw hbx hbl
            by_cases hlt : k < xs.length
            · obtain ⟨b, o, p', ad', n', cap', rfl, HC, HI0, hbb⟩ := HAL.out.kid HBL.out k hlt
              have hsz1 := Re.size_get (xs := xs) (i := k) (a := xs[k]) (by simp [hlt])
              have HCA := hid (HIH.out xs[k] (by simp) wr _ (HI0.out.below HBL.out) (by omega))
              have HST := hid (Re.plains_take xs k xs[k] (by simp [hlt]))
              have HSA := hid (Re.plains_get xs k xs[k] (by simp [hlt]))
              generalize hbk : xs[k].plain = bk at HCA
              have HBK := hid hbk
              clear hbk
              go_wp2_with (first | (with_reducible (refine wpList_load_agg rfl 28 _ rfl b (o + (k * 9)) rfl _ _ HC.out Try.underlying28 rfl (size_re9 _ _ _ _ _ _ _ _ _) ?_)))
              refine HCA.out.mono ?_
              rintro e w2 ⟨rfl, hb2⟩
              have HB2 := hid hb2
              clear hb2 HCA
              cases bk
              · go_wp2_with fail
                go_ret
                refine ⟨ret_bool ?_, HBL.out.trans (HB2.out.mono (by omega))⟩
                rw [Re.plain, HSA.out HBK.out]; simp
              · go_wp2_with fail
                go_roundw
                case rel =>
                  refine ⟨k + 1, by omega, by go_num, ?_, HBW2.out.trans (HB2.out.mono (by omega))⟩
                  show _ = _
                  rw [HST.out, hz.out, HBK.out]; rfl
                case measure => simp [intOf]; omega
            · obtain rfl : k = xs.length := by omega
              go_wp2_with fail
              go_ret
              exact ⟨ret_bool (by have := hz.out; rw [List.take_length] at this; rw [Re.plain, this, HPS.out]; rfl), HBL.out⟩
        · skip
          by_cases i2 : p.hi = (-1)
          · skip
            have HPS : Hid (decide (p.op = 5 → (p.lo = 0 ∧ p.hi = 1) ∨ ((p.lo = 0 ∨ p.lo = 1) ∧ p.hi = -1)) = true) := hid (decide_eq_true (by omega))
            have oh5 : (p.op == 5) = true := by simp [h5]
            have ol0 : (p.lo == 0) = true := by simp [l0]
            have oi1 : (p.hi == 1) = false := by simp [i1]
            have oi2 : (p.hi == (-1)) = true := by simp [i2]
            clear h5 l0 i1 i2
            go_enter Try.func30, Try.ntmps30
            go_wp2_with fail
            go_loopw [3] (fun i wr => ∃ k : Nat, k ≤ xs.length ∧ i = .int .i64 k ∧ Hid (Re.plains (xs.take k) = true) ∧ Below (w.heap.size + 1) (w.alloc (.cells #[.int .i64 p.op, .int .u64 p.set.a, .int .u64 p.set.b, .int .u64 p.set.c, .int .u64 p.set.d, .int .i64 p.lo, .int .i64 p.hi, .int .i64 p.gr, .slice ad xs.length cap] 28)) wr) (fun i _ => xs.length - (intOf i).toNat)
            case atStart => exact ⟨0, by omega, rfl, rfl, HBA.out⟩
            case round =>
              obtain ⟨k, hk, rfl, hz, hbw⟩ := hrel
              obtain ⟨hbx, hbl, hlt0⟩ := box_facts hbw
              have q := hbx.c9
              have HBW2 := hid hbw
              have HBL := hid hbl
              clear hbw hbx hbl
              by_cases hlt : k < xs.length
              · obtain ⟨b, o, p', ad', n', cap', rfl, HC, HI0, hbb⟩ := HAL.out.kid HBL.out k hlt
                have hsz1 := Re.size_get (xs := xs) (i := k) (a := xs[k]) (by simp [hlt])
                have HCA := hid (HIH.out xs[k] (by simp) wr _ (HI0.out.below HBL.out) (by omega))
                have HST := hid (Re.plains_take xs k xs[k] (by simp [hlt]))
                have HSA := hid (Re.plains_get xs k xs[k] (by simp [hlt]))
                generalize hbk : xs[k].plain = bk at HCA
                have HBK := hid hbk
                clear hbk
                go_wp2_with (first | (with_reducible (refine wpList_load_agg rfl 28 _ rfl b (o + (k * 9)) rfl _ _ HC.out Try.underlying28 rfl (size_re9 _ _ _ _ _ _ _ _ _) ?_)))
                refine HCA.out.mono ?_
                rintro e w2 ⟨rfl, hb2⟩
                have HB2 := hid hb2
                clear hb2 HCA
                cases bk
                · go_wp2_with fail
                  go_ret
                  refine ⟨ret_bool ?_, HBL.out.trans (HB2.out.mono (by omega))⟩
                  rw [Re.plain, HSA.out HBK.out]; simp
                · go_wp2_with fail
                  go_roundw
                  case rel =>
                    refine ⟨k + 1, by omega, by go_num, ?_, HBW2.out.trans (HB2.out.mono (by omega))⟩
                    show _ = _
                    rw [HST.out, hz.out, HBK.out]; rfl
                  case measure => simp [intOf]; omega
              · obtain rfl : k = xs.length := by omega
                go_wp2_with fail
                go_ret
                exact ⟨ret_bool (by have := hz.out; rw [List.take_length] at this; rw [Re.plain, this, HPS.out]; rfl), HBL.out⟩
          · skip
            have HPS : Hid (decide (p.op = 5 → (p.lo = 0 ∧ p.hi = 1) ∨ ((p.lo = 0 ∨ p.lo = 1) ∧ p.hi = -1)) = false) := hid (decide_eq_false (by omega))
            have oh5 : (p.op == 5) = true := by simp [h5]
            have ol0 : (p.lo == 0) = true := by simp [l0]
            have oi1 : (p.hi == 1) = false := by simp [i1]
            have oi2 : (p.hi == (-1)) = false := by simp [i2]
            clear h5 l0 i1 i2
            go_enter Try.func30, Try.ntmps30
            go_wp2_with fail
            go_ret
            exact ⟨ret_bool (by rw [Re.plain, HPS.out]; rfl), HBW.out⟩
      · skip
        by_cases l1 : p.lo = 1
        · skip
          by_cases i2 : p.hi = (-1)
          · skip
            have HPS : Hid (decide (p.op = 5 → (p.lo = 0 ∧ p.hi = 1) ∨ ((p.lo = 0 ∨ p.lo = 1) ∧ p.hi = -1)) = true) := hid (decide_eq_true (by omega))
            have oh5 : (p.op == 5) = true := by simp [h5]
            have ol0 : (p.lo == 0) = false := by simp [l0]
            have ol1 : (p.lo == 1) = true := by simp [l1]
            have oi2 : (p.hi == (-1)) = true := by simp [i2]
            clear h5 l0 l1 i2
            go_enter Try.func30, Try.ntmps30
            go_wp2_with fail
            go_loopw [3] (fun i wr => ∃ k : Nat, k ≤ xs.length ∧ i = .int .i64 k ∧ Hid (Re.plains (xs.take k) = true) ∧ Below (w.heap.size + 1) (w.alloc (.cells #[.int .i64 p.op, .int .u64 p.set.a, .int .u64 p.set.b, .int .u64 p.set.c, .int .u64 p.set.d, .int .i64 p.lo, .int .i64 p.hi, .int .i64 p.gr, .slice ad xs.length cap] 28)) wr) (fun i _ => xs.length - (intOf i).toNat)
            case atStart => exact ⟨0, by omega, rfl, rfl, HBA.out⟩
            case round =>
              obtain ⟨k, hk, rfl, hz, hbw⟩ := hrel
              obtain ⟨hbx, hbl, hlt0⟩ := box_facts hbw
              have q := hbx.c9
              have HBW2 := hid hbw
              have HBL := hid hbl
              clear hbw hbx hbl
              by_cases hlt : k < xs.length
              · obtain ⟨b, o, p', ad', n', cap', rfl, HC, HI0, hbb⟩ := HAL.out.kid HBL.out k hlt
                have hsz1 := Re.size_get (xs := xs) (i := k) (a := xs[k]) (by simp [hlt])
                have HCA := hid (HIH.out xs[k] (by simp) wr _ (HI0.out.below HBL.out) (by omega))
                have HST := hid (Re.plains_take xs k xs[k] (by simp [hlt]))
                have HSA := hid (Re.plains_get xs k xs[k] (by simp [hlt]))
                generalize hbk : xs[k].plain = bk at HCA
                have HBK := hid hbk
                clear hbk
                go_wp2_with (first | (with_reducible (refine wpList_load_agg rfl 28 _ rfl b (o + (k * 9)) rfl _ _ HC.out Try.underlying28 rfl (size_re9 _ _ _ _ _ _ _ _ _) ?_)))
                refine HCA.out.mono ?_
                rintro e w2 ⟨rfl, hb2⟩
                have HB2 := hid hb2
                clear hb2 HCA
                cases bk
                · go_wp2_with fail
                  go_ret
                  refine ⟨ret_bool ?_, HBL.out.trans (HB2.out.mono (by omega))⟩
                  rw [Re.plain, HSA.out HBK.out]; simp
                · go_wp2_with fail
                  go_roundw
                  case rel =>
                    refine ⟨k + 1, by omega, by go_num, ?_, HBW2.out.trans (HB2.out.mono (by omega))⟩
                    show _ = _
                    rw [HST.out, hz.out, HBK.out]; rfl
                  case measure => simp [intOf]; omega
              · obtain rfl : k = xs.length := by omega
                go_wp2_with fail
                go_ret
                exact ⟨ret_bool (by have := hz.out; rw [List.take_length] at this; rw [Re.plain, this, HPS.out]; rfl), HBL.out⟩
          · skip
            have HPS : Hid (decide (p.op = 5 → (p.lo = 0 ∧ p.hi = 1) ∨ ((p.lo = 0 ∨ p.lo = 1) ∧ p.hi = -1)) = false) := hid (decide_eq_false (by omega))
            have oh5 : (p.op == 5) = true := by simp [h5]
            have ol0 : (p.lo == 0) = false := by simp [l0]
            have ol1 : (p.lo == 1) = true := by simp [l1]
            have oi2 : (p.hi == (-1)) = false := by simp [i2]
            clear h5 l0 l1 i2
            go_enter Try.func30, Try.ntmps30
            go_wp2_with fail
            go_ret
            exact ⟨ret_bool (by rw [Re.plain, HPS.out]; rfl), HBW.out⟩
        · skip
          have HPS : Hid (decide (p.op = 5 → (p.lo = 0 ∧ p.hi = 1) ∨ ((p.lo = 0 ∨ p.lo = 1) ∧ p.hi = -1)) = false) := hid (decide_eq_false (by omega))
          have oh5 : (p.op == 5) = true := by simp [h5]
          have ol0 : (p.lo == 0) = false := by simp [l0]
          have ol1 : (p.lo == 1) = false := by simp [l1]
          clear h5 l0 l1
          go_enter Try.func30, Try.ntmps30
          go_wp2_with fail
          go_ret
          exact ⟨ret_bool (by rw [Re.plain, HPS.out]; rfl), HBW.out⟩
    · skip
      have HPS : Hid (decide (p.op = 5 → (p.lo = 0 ∧ p.hi = 1) ∨ ((p.lo = 0 ∨ p.lo = 1) ∧ p.hi = -1)) = true) := hid (decide_eq_true (by omega))
      have oh5 : (p.op == 5) = false := by simp [h5]
      clear h5
      go_enter Try.func30, Try.ntmps30
      go_wp2_with fail
      go_loopw [3] (fun i wr => ∃ k : Nat, k ≤ xs.length ∧ i = .int .i64 k ∧ Hid (Re.plains (xs.take k) = true) ∧ Below (w.heap.size + 1) (w.alloc (.cells #[.int .i64 p.op, .int .u64 p.set.a, .int .u64 p.set.b, .int .u64 p.set.c, .int .u64 p.set.d, .int .i64 p.lo, .int .i64 p.hi, .int .i64 p.gr, .slice ad xs.length cap] 28)) wr) (fun i _ => xs.length - (intOf i).toNat)
      case atStart => exact ⟨0, by omega, rfl, rfl, HBA.out⟩
      case round =>
        obtain ⟨k, hk, rfl, hz, hbw⟩ := hrel
        obtain ⟨hbx, hbl, hlt0⟩ := box_facts hbw
        have q := hbx.c9
        have HBW2 := hid hbw
        have HBL := hid hbl
        clear hbw hbx hbl
        by_cases hlt : k < xs.length
        · obtain ⟨b, o, p', ad', n', cap', rfl, HC, HI0, hbb⟩ := HAL.out.kid HBL.out k hlt
          have hsz1 := Re.size_get (xs := xs) (i := k) (a := xs[k]) (by simp [hlt])
          have HCA := hid (HIH.out xs[k] (by simp) wr _ (HI0.out.below HBL.out) (by omega))
          have HST := hid (Re.plains_take xs k xs[k] (by simp [hlt]))
          have HSA := hid (Re.plains_get xs k xs[k] (by simp [hlt]))
          generalize hbk : xs[k].plain = bk at HCA
          have HBK := hid hbk
          clear hbk
          go_wp2_with (first | (with_reducible (refine wpList_load_agg rfl 28 _ rfl b (o + (k * 9)) rfl _ _ HC.out Try.underlying28 rfl (size_re9 _ _ _ _ _ _ _ _ _) ?_)))
          refine HCA.out.mono ?_
          rintro e w2 ⟨rfl, hb2⟩
          have HB2 := hid hb2
          clear hb2 HCA
          cases bk
          · go_wp2_with fail
            go_ret
            refine ⟨ret_bool ?_, HBL.out.trans (HB2.out.mono (by omega))⟩
            rw [Re.plain, HSA.out HBK.out]; simp
          · go_wp2_with fail
            go_roundw
            case rel =>
              refine ⟨k + 1, by omega, by go_num, ?_, HBW2.out.trans (HB2.out.mono (by omega))⟩
              show _ = _
              rw [HST.out, hz.out, HBK.out]; rfl
            case measure => simp [intOf]; omega
        · obtain rfl : k = xs.length := by omega
          go_wp2_with fail
          go_ret
          exact ⟨ret_bool (by have := hz.out; rw [List.take_length] at this; rw [Re.plain, this, HPS.out]; rfl), HBL.out⟩
end Go.Proofs.Ytibfnmkeghkdpaa
