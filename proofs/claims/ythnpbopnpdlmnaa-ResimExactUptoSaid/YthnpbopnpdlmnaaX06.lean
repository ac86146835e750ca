/- The reference's questions on bounds and names, and the check of a tree. -/
import Derived.Test.YthnpbopnpdlmnaaX05
namespace Go.Proofs.Ythnpbopnpdlmnaa
open Go.RowKit

set_option maxHeartbeats 2000000 in
theorem countedRef_any (p : Pay) (sl : Value) (w : World) :
    Calls Try.prog 46 #[.agg #[.int .i64 p.op, .int .u64 p.set.a, .int .u64 p.set.b, .int .u64 p.set.c, .int .u64 p.set.d, .int .i64 p.lo, .int .i64 p.hi, .int .i64 p.gr, sl]] w fun e w' => e = .returned (.bool (!p.badRep)) ∧ Below w.heap.size w w' := by
  have HHI : (p.hi == -1) = true ∨ (p.hi == -1) = false := by cases (p.hi == -1) <;> simp
  rcases HHI with dh | dh
  all_goals
    have HDH := hid dh
    go_enter Try.func46, Try.ntmps46
    go_wp2_with fail
    all_goals
      go_ret
      refine ⟨ret_bool ?_, (Below.refl _ _).alloc (Nat.le_refl _) _⟩
      have hh := HDH.out
      simp at hh
      rw [Bool.eq_iff_iff]
      simp [Pay.badRep, hh]
      try omega

def RangedPost (r : Option Nat) (w : World) (e : Ending) (w' : World) : Prop := Below w.heap.size w w' ∧ ∃ m : Int, e = .returned (.tuple #[.int .i64 m, .bool r.isSome]) ∧ ∀ n, r = some n → m = (n : Int)

theorem Re.rangeds_take : ∀ (xs : List Re) (k : Nat) (a : Re) (b n : Nat), xs[k]? = some a → Re.rangeds (xs.take k) b = some n → Re.rangeds (xs.take (k + 1)) b = a.ranged n
  | t :: ts, 0, a, b, n, h, h2 => by
    simp at h; subst h
    simp only [List.take_zero, Re.rangeds, Option.some.injEq] at h2
    subst h2
    simp only [List.take_succ_cons, List.take_zero, Re.rangeds]
    cases t.ranged b <;> rfl
  | t :: ts, k + 1, a, b, n, h, h2 => by
    simp only [List.take_succ_cons, Re.rangeds] at h2 ⊢
    cases hx : t.ranged b with
    | none => rw [hx] at h2; simp at h2
    | some m => rw [hx] at h2; exact Re.rangeds_take ts k a m n (by simpa using h) h2
theorem Re.rangeds_none : ∀ (xs : List Re) (k : Nat) (a : Re) (b n : Nat), xs[k]? = some a → Re.rangeds (xs.take k) b = some n → a.ranged n = none → Re.rangeds xs b = none
  | t :: ts, 0, a, b, n, h, h2, h3 => by
    simp at h; subst h
    simp only [List.take_zero, Re.rangeds, Option.some.injEq] at h2
    subst h2
    simp [Re.rangeds, h3]
  | t :: ts, k + 1, a, b, n, h, h2, h3 => by
    simp only [List.take_succ_cons, Re.rangeds] at h2 ⊢
    cases hx : t.ranged b with
    | none => rfl
    | some m => rw [hx] at h2; exact Re.rangeds_none ts k a m n (by simpa using h) h2 h3

set_option maxHeartbeats 4000000 in
theorem rangedRef_any (t : Re) : ∀ (w : World) (cs : List Value) (bf : Nat), t.In w cs → bf + t.size ≤ 1048577 →
    Calls Try.prog 26 #[.agg cs.toArray, .int .i64 bf] w (RangedPost (t.ranged bf) w) := by
  induction t using Re.ind with
  | h p xs ih =>
    intro w cs bf hIn hsz
    rw [Re.In] at hIn
    obtain ⟨ad, cap, rfl, hwf, hlc, hcm, hnil, hall⟩ := hIn
    rw [Re.size_mk] at hsz
    have hlen := Re.sizes_len xs
    have HIH := hid ih
    have HAL := hid hall
    have HWF := hid hwf
    clear ih hall hwf
    simp only [Pay.cells]
    by_cases o5 : p.op = 5
    · have d5 : (p.op == 5) = true := by simpa using o5
      have d6 : (p.op == 6) = false := by simp [o5]
      by_cases hbr : p.badRep = true
      · have HR : Hid (Re.ranged (.mk p xs) bf = none) := by show _ = _; rw [Re.ranged, if_pos ⟨o5, hbr⟩]
        clear o5
        rw [HR.out]
        go_enter Try.func26, Try.ntmps26
        go_wp2_with fail
        refine (countedRef_any p (.slice ad xs.length cap) _).mono ?_
        rw [hbr]
        rintro e w1 ⟨rfl, hb1⟩
        have hb1' : Below (w.heap.size + 1) (w.alloc (.cells #[.int .i64 p.op, .int .u64 p.set.a, .int .u64 p.set.b, .int .u64 p.set.c, .int .u64 p.set.d, .int .i64 p.lo, .int .i64 p.hi, .int .i64 p.gr, .slice ad xs.length cap] 28)) w1 := hb1.mono (by simp)
        obtain ⟨hbx0, hbl0, hlt00⟩ := box_facts hb1'
        have HB1 := hid hb1'
        have HBL0 := hid hbl0
        have q0 := hbx0.c9
        clear hb1 hb1' hbx0 hbl0 hbr
        go_wp2_with fail
        go_ret2
        exact ⟨HBL0.out, bf, rfl, fun n hn => by cases hn⟩
      · have hbr : p.badRep = false := by simpa using hbr
        have HR : Hid (Re.ranged (.mk p xs) bf = Re.rangeds xs bf) := by show _ = _; rw [Re.ranged, if_neg (fun h => by rw [hbr] at h; simp at h), if_neg (by omega)]
        clear o5
        rw [HR.out]
        go_enter Try.func26, Try.ntmps26
        go_wp2_with fail
        refine (countedRef_any p (.slice ad xs.length cap) _).mono ?_
        rw [hbr]
        rintro e w1 ⟨rfl, hb1⟩
        have hb1' : Below (w.heap.size + 1) (w.alloc (.cells #[.int .i64 p.op, .int .u64 p.set.a, .int .u64 p.set.b, .int .u64 p.set.c, .int .u64 p.set.d, .int .i64 p.lo, .int .i64 p.hi, .int .i64 p.gr, .slice ad xs.length cap] 28)) w1 := hb1.mono (by simp)
        obtain ⟨hbx0, hbl0, hlt00⟩ := box_facts hb1'
        have HB1 := hid hb1'
        have HBL0 := hid hbl0
        have q0 := hbx0.c9
        clear hb1 hb1' hbx0 hbl0 hbr
        go_wp2_with fail
        go_loopw [1, 6, 7, 8] (fun v i _ _ wr => ∃ k n : Nat, k ≤ xs.length ∧ i = .int .i64 k ∧ v = .int .i64 n ∧ Hid (Re.rangeds (xs.take k) (bf) = some n) ∧ Below (w.heap.size + 1) (w.alloc (.cells #[.int .i64 p.op, .int .u64 p.set.a, .int .u64 p.set.b, .int .u64 p.set.c, .int .u64 p.set.d, .int .i64 p.lo, .int .i64 p.hi, .int .i64 p.gr, .slice ad xs.length cap] 28)) wr) (fun _ i _ _ _ => xs.length - (intOf i).toNat)
        case atStart => exact ⟨0, bf, by omega, rfl, rfl, rfl, HB1.out⟩
        case round =>
          obtain ⟨k, n, hk, rfl, rfl, hn, hbw⟩ := hrel
          obtain ⟨hbx, hbl, hlt0⟩ := box_facts hbw
          have q := hbx.c9
          have HBW := hid hbw
          have HBL := hid hbl
          clear hbw hbx hbl
          have hgr := Re.rangeds_groups _ _ _ hn.out
          have hcl := Re.counts_le (· == 6) (xs.take k)
          have hct := Re.counts_take_le (fun _ => true) xs k
          by_cases hlt : k < xs.length
          · obtain ⟨b, o, p', ad', n', cap', rfl, HC, HI0, hbb⟩ := HAL.out.kid HBL.out k hlt
            have hst := Re.counts_take (fun _ => true) xs k xs[k] (by simp [hlt])
            have hst1 := Re.counts_take_le (fun _ => true) xs (k + 1)
            simp only [Re.sizes, Re.size] at *
            have HCA := hid (HIH.out xs[k] (by simp) wr _ n (HI0.out.below HBL.out) (by omega))
            have HT := hid (Re.rangeds_take xs k xs[k] (bf) n (by simp [hlt]) hn.out)
            have HN := hid (Re.rangeds_none xs k xs[k] (bf) n (by simp [hlt]) hn.out)
            have hnl : n ≤ 1048577 := by omega
            generalize hres : xs[k].ranged n = res at HCA
            have HRES := hid hres
            clear hst hst1 hgr hcl hct hres
            go_wp2_with (first | (with_reducible (refine wpList_load_agg rfl 28 _ rfl b (o + (k * 9)) rfl _ _ HC.out Try.underlying28 rfl (size_re9 _ _ _ _ _ _ _ _ _) ?_)))
            refine HCA.out.mono ?_
            rintro e w2 ⟨hb2, m, rfl, hm⟩
            have HB2 := hid hb2
            have HM := hid hm
            clear hb2 HCA hm
            cases res with
            | none =>
              go_wp2_with fail
              go_ret2
              refine ⟨HBL.out.trans (HB2.out.mono (by omega)), n, ?_, fun n' hn' => ?_⟩
              · rw [HN.out HRES.out]; rfl
              · rw [HN.out HRES.out] at hn'; cases hn'
            | some n2 =>
              obtain rfl : m = (n2 : Int) := HM.out n2 rfl
              go_wp2_with fail
              go_roundw
              case rel =>
                refine ⟨k + 1, n2, by omega, by go_num, rfl, ?_, HBW.out.trans (HB2.out.mono (by omega))⟩
                show _ = _
                rw [HT.out, HRES.out]
              case measure => simp [intOf]; omega
          · obtain rfl : k = xs.length := by omega
            go_wp2_with fail
            go_ret2
            have hn2 := hn.out
            rw [List.take_length] at hn2
            refine ⟨HBL.out, n, by rw [hn2]; rfl, fun n' hn' => by rw [hn2] at hn'; cases hn'; rfl⟩
    · by_cases o6 : p.op = 6
      · have d5 : (p.op == 5) = false := by simpa using o5
        have d6 : (p.op == 6) = true := by simpa using o6
        have hgw := HWF.out.gr
        by_cases hg : p.gr = bf + 1
        · have HR : Hid (Re.ranged (.mk p xs) bf = Re.rangeds xs (bf + 1)) := by show _ = _; rw [Re.ranged, if_neg (fun h => o5 h.1), if_pos o6, if_pos hg]
          clear o5 o6 hgw
          rw [HR.out]
          have dg : (wrap64 (p.gr - 1) != (bf : Int)) = false := by
            rw [IntWalk.wrap64_in _ ⟨by omega, by omega⟩, hg]; simp
          have hg1 : p.gr - 1 ≤ 1048577 := by omega
          have hg2 : 0 ≤ p.gr - 1 := by omega
          have dg2 : (p.gr - 1 != (bf : Int)) = false := by rw [hg]; simp
          clear hg
          go_enter Try.func26, Try.ntmps26
          go_wp2_with fail
          go_loopw [1, 6, 7, 8] (fun v i _ _ wr => ∃ k n : Nat, k ≤ xs.length ∧ i = .int .i64 k ∧ v = .int .i64 n ∧ Hid (Re.rangeds (xs.take k) (bf + 1) = some n) ∧ Below (w.heap.size + 1) (w.alloc (.cells #[.int .i64 p.op, .int .u64 p.set.a, .int .u64 p.set.b, .int .u64 p.set.c, .int .u64 p.set.d, .int .i64 p.lo, .int .i64 p.hi, .int .i64 p.gr, .slice ad xs.length cap] 28)) wr) (fun _ i _ _ _ => xs.length - (intOf i).toNat)
          case atStart => exact ⟨0, bf + 1, by omega, rfl, by go_num, rfl, Below.refl _ _⟩
          case round =>
            obtain ⟨k, n, hk, rfl, rfl, hn, hbw⟩ := hrel
            obtain ⟨hbx, hbl, hlt0⟩ := box_facts hbw
            have q := hbx.c9
            have HBW := hid hbw
            have HBL := hid hbl
            clear hbw hbx hbl
            have hgr := Re.rangeds_groups _ _ _ hn.out
            have hcl := Re.counts_le (· == 6) (xs.take k)
            have hct := Re.counts_take_le (fun _ => true) xs k
            by_cases hlt : k < xs.length
            · obtain ⟨b, o, p', ad', n', cap', rfl, HC, HI0, hbb⟩ := HAL.out.kid HBL.out k hlt
              have hst := Re.counts_take (fun _ => true) xs k xs[k] (by simp [hlt])
              have hst1 := Re.counts_take_le (fun _ => true) xs (k + 1)
              simp only [Re.sizes, Re.size] at *
              have HCA := hid (HIH.out xs[k] (by simp) wr _ n (HI0.out.below HBL.out) (by omega))
              have HT := hid (Re.rangeds_take xs k xs[k] (bf + 1) n (by simp [hlt]) hn.out)
              have HN := hid (Re.rangeds_none xs k xs[k] (bf + 1) n (by simp [hlt]) hn.out)
              have hnl : n ≤ 1048577 := by omega
              generalize hres : xs[k].ranged n = res at HCA
              have HRES := hid hres
              clear hst hst1 hgr hcl hct hres
              go_wp2_with (first | (with_reducible (refine wpList_load_agg rfl 28 _ rfl b (o + (k * 9)) rfl _ _ HC.out Try.underlying28 rfl (size_re9 _ _ _ _ _ _ _ _ _) ?_)))
              refine HCA.out.mono ?_
              rintro e w2 ⟨hb2, m, rfl, hm⟩
              have HB2 := hid hb2
              have HM := hid hm
              clear hb2 HCA hm
              cases res with
              | none =>
                go_wp2_with fail
                go_ret2
                refine ⟨HBL.out.trans (HB2.out.mono (by omega)), n, ?_, fun n' hn' => ?_⟩
                · rw [HN.out HRES.out]; rfl
                · rw [HN.out HRES.out] at hn'; cases hn'
              | some n2 =>
                obtain rfl : m = (n2 : Int) := HM.out n2 rfl
                go_wp2_with fail
                go_roundw
                case rel =>
                  refine ⟨k + 1, n2, by omega, by go_num, rfl, ?_, HBW.out.trans (HB2.out.mono (by omega))⟩
                  show _ = _
                  rw [HT.out, HRES.out]
                case measure => simp [intOf]; omega
            · obtain rfl : k = xs.length := by omega
              go_wp2_with fail
              go_ret2
              have hn2 := hn.out
              rw [List.take_length] at hn2
              refine ⟨HBL.out, n, by rw [hn2]; rfl, fun n' hn' => by rw [hn2] at hn'; cases hn'; rfl⟩
        · have HR : Hid (Re.ranged (.mk p xs) bf = none) := by show _ = _; rw [Re.ranged, if_neg (fun h => o5 h.1), if_pos o6, if_neg hg]
          rw [HR.out]
          have dg : (wrap64 (p.gr - 1) != (bf : Int)) = true := by
            rw [bne_iff_ne]
            intro h
            unfold I64 at hgw
            by_cases hlow : p.gr = -9223372036854775808
            · rw [hlow] at h
              have e : wrap64 (-9223372036854775808 - 1) = 9223372036854775807 := by unfold wrap64; decide
              rw [e] at h
              omega
            · rw [IntWalk.wrap64_in _ ⟨by omega, by omega⟩] at h
              omega
          clear o5 o6 hgw hg
          go_enter Try.func26, Try.ntmps26
          go_wp2_with fail
          go_ret2
          exact ⟨(Below.refl _ _).alloc (Nat.le_refl _) _, bf, rfl, fun n hn => by cases hn⟩
      · have d5 : (p.op == 5) = false := by simpa using o5
        have d6 : (p.op == 6) = false := by simpa using o6
        have HR : Hid (Re.ranged (.mk p xs) bf = Re.rangeds xs bf) := by show _ = _; rw [Re.ranged, if_neg (fun h => o5 h.1), if_neg o6]
        clear o5 o6
        rw [HR.out]
        go_enter Try.func26, Try.ntmps26
        go_wp2_with fail
        go_loopw [1, 6, 7, 8] (fun v i _ _ wr => ∃ k n : Nat, k ≤ xs.length ∧ i = .int .i64 k ∧ v = .int .i64 n ∧ Hid (Re.rangeds (xs.take k) (bf) = some n) ∧ Below (w.heap.size + 1) (w.alloc (.cells #[.int .i64 p.op, .int .u64 p.set.a, .int .u64 p.set.b, .int .u64 p.set.c, .int .u64 p.set.d, .int .i64 p.lo, .int .i64 p.hi, .int .i64 p.gr, .slice ad xs.length cap] 28)) wr) (fun _ i _ _ _ => xs.length - (intOf i).toNat)
        case atStart => exact ⟨0, bf, by omega, rfl, rfl, rfl, Below.refl _ _⟩
        case round =>
          obtain ⟨k, n, hk, rfl, rfl, hn, hbw⟩ := hrel
          obtain ⟨hbx, hbl, hlt0⟩ := box_facts hbw
          have q := hbx.c9
          have HBW := hid hbw
          have HBL := hid hbl
          clear hbw hbx hbl
          have hgr := Re.rangeds_groups _ _ _ hn.out
          have hcl := Re.counts_le (· == 6) (xs.take k)
          have hct := Re.counts_take_le (fun _ => true) xs k
          by_cases hlt : k < xs.length
          · obtain ⟨b, o, p', ad', n', cap', rfl, HC, HI0, hbb⟩ := HAL.out.kid HBL.out k hlt
            have hst := Re.counts_take (fun _ => true) xs k xs[k] (by simp [hlt])
            have hst1 := Re.counts_take_le (fun _ => true) xs (k + 1)
            simp only [Re.sizes, Re.size] at *
            have HCA := hid (HIH.out xs[k] (by simp) wr _ n (HI0.out.below HBL.out) (by omega))
            have HT := hid (Re.rangeds_take xs k xs[k] (bf) n (by simp [hlt]) hn.out)
            have HN := hid (Re.rangeds_none xs k xs[k] (bf) n (by simp [hlt]) hn.out)
            have hnl : n ≤ 1048577 := by omega
            generalize hres : xs[k].ranged n = res at HCA
            have HRES := hid hres
            clear hst hst1 hgr hcl hct hres
            go_wp2_with (first | (with_reducible (refine wpList_load_agg rfl 28 _ rfl b (o + (k * 9)) rfl _ _ HC.out Try.underlying28 rfl (size_re9 _ _ _ _ _ _ _ _ _) ?_)))
            refine HCA.out.mono ?_
            rintro e w2 ⟨hb2, m, rfl, hm⟩
            have HB2 := hid hb2
            have HM := hid hm
            clear hb2 HCA hm
            cases res with
            | none =>
              go_wp2_with fail
              go_ret2
              refine ⟨HBL.out.trans (HB2.out.mono (by omega)), n, ?_, fun n' hn' => ?_⟩
              · rw [HN.out HRES.out]; rfl
              · rw [HN.out HRES.out] at hn'; cases hn'
            | some n2 =>
              obtain rfl : m = (n2 : Int) := HM.out n2 rfl
              go_wp2_with fail
              go_roundw
              case rel =>
                refine ⟨k + 1, n2, by omega, by go_num, rfl, ?_, HBW.out.trans (HB2.out.mono (by omega))⟩
                show _ = _
                rw [HT.out, HRES.out]
              case measure => simp [intOf]; omega
          · obtain rfl : k = xs.length := by omega
            go_wp2_with fail
            go_ret2
            have hn2 := hn.out
            rw [List.take_length] at hn2
            refine ⟨HBL.out, n, by rw [hn2]; rfl, fun n' hn' => by rw [hn2] at hn'; cases hn'; rfl⟩
end Go.Proofs.Ythnpbopnpdlmnaa
