/- The reference's grown: the number of nodes of the expanded tree, at most 4097. -/
import Derived.Test.YthnpbopnpdlmnaaX10
import Derived.Test.YthnpbopnpdlmnaaX07
import Derived.Test.YthnpbopnpdlmnaaX03
namespace Go.Proofs.Ythnpbopnpdlmnaa
open Go.RowKit
attribute [local go_sem] gives givesUpon

def Pay.simple (p : Pay) : Bool := (decide (p.lo = 0) && decide (p.hi = 1)) || (decide (p.lo ≤ 1) && decide (p.hi = -1))
def grownL (n lo hi : Int) : Int := if hi = 0 then 1 else if lo = 1 ∧ hi = 1 then n else if hi = -1 then min 4097 (lo * n + 2) else min 4097 (lo * n + (hi - lo) * (n + 1) + 1)
mutual
def Re.grown : Re → Int
  | .mk p xs => if p.op = 5 ∧ p.simple = false then grownL (Re.growns xs 0) p.lo p.hi else min 4097 (Re.growns xs 0 + 1)
def Re.growns : List Re → Int → Int
  | [], n => n
  | t :: ts, n => Re.growns ts (min 4097 (n + t.grown))
end
theorem Re.growns_take : ∀ (xs : List Re) (k : Nat) (a : Re) (n : Int), xs[k]? = some a → Re.growns (xs.take (k + 1)) n = min 4097 (Re.growns (xs.take k) n + a.grown)
  | t :: ts, 0, a, n, h => by simp at h; subst h; simp [Re.growns]
  | t :: ts, k + 1, a, n, h => by
    rw [List.take_succ_cons, List.take_succ_cons, Re.growns, Re.growns]
    exact Re.growns_take ts k a _ (by simpa using h)

theorem grown_weight {n lo hi : Int} (hn : 0 ≤ n) (hlo : 0 ≤ lo ∧ lo ≤ 64) (hhi : hi = -1 ∨ (lo ≤ hi ∧ hi ≤ 64)) (hs : ¬ ((lo = 0 ∧ hi = 1) ∨ (lo ≤ 1 ∧ hi = -1))) : grownL (min 4097 n) lo hi = min 4097 (weightL n lo hi) := by
  have c1 : ¬ ((lo = 0 ∧ (hi = 1 ∨ hi = -1)) ∨ (lo = 1 ∧ hi = -1)) := by omega
  unfold grownL weightL
  rw [if_neg c1]
  by_cases c2 : hi = 0
  · rw [if_pos c2, if_pos c2]; omega
  rw [if_neg c2, if_neg c2]
  by_cases c3 : lo = 1 ∧ hi = 1
  · rw [if_pos c3, if_pos c3]
  rw [if_neg c3, if_neg c3]
  by_cases h97 : n ≤ 4097
  · have e : min 4097 n = n := by omega
    rw [e]
    by_cases c4 : hi = lo
    · rw [if_pos c4, if_neg (by omega)]
      subst c4
      simp only [Int.sub_self, Int.zero_mul]
      omega
    · rw [if_neg c4]
      by_cases c5 : hi = -1
      · rw [if_pos c5, if_pos c5]; omega
      · rw [if_neg c5, if_neg c5]; omega
  · have e : min 4097 n = 4097 := by omega
    rw [e]
    have h1 : 0 ≤ lo * n := Int.mul_nonneg hlo.1 hn
    by_cases c5 : hi = -1
    · rw [if_pos c5, if_neg (by omega), if_pos c5]
      have h2 : 1 * n ≤ lo * n := Int.mul_le_mul_of_nonneg_right (by omega) hn
      have h3 : 1 * 4097 ≤ lo * 4097 := Int.mul_le_mul_of_nonneg_right (by omega) (by omega)
      omega
    · rw [if_neg c5]
      have h5 : 0 ≤ lo * 4097 := Int.mul_nonneg hlo.1 (by omega)
      by_cases c4 : hi = lo
      · rw [if_pos c4]
        have h2 : 1 * n ≤ lo * n := Int.mul_le_mul_of_nonneg_right (by omega) hn
        have h3 : 1 * 4097 ≤ lo * 4097 := Int.mul_le_mul_of_nonneg_right (by omega) (by omega)
        have h4 : 0 ≤ (hi - lo) * (4097 + 1) := Int.mul_nonneg (by omega) (by omega)
        omega
      · rw [if_neg c4, if_neg c5]
        have h2 : 1 * (n + 1) ≤ (hi - lo) * (n + 1) := Int.mul_le_mul_of_nonneg_right (by omega) (by omega)
        have h3 : 1 * (4097 + 1) ≤ (hi - lo) * (4097 + 1) := Int.mul_le_mul_of_nonneg_right (by omega) (by omega)
        omega
theorem Pay.simple_iff {p : Pay} : p.simple = true ↔ ((p.lo = 0 ∧ p.hi = 1) ∨ (p.lo ≤ 1 ∧ p.hi = -1)) := by simp [Pay.simple]
mutual
theorem Re.grown_weigh : ∀ (t : Re), t.okr = true → t.grown = min 4097 t.weigh
  | .mk p xs, hok => by
    rw [Re.okr, Bool.and_eq_true, decide_eq_true_eq] at hok
    have hb := Re.weighs_bd xs 0 hok.2 (by omega)
    have h := Re.growns_weighs xs 0 hok.2 (by omega)
    rw [show min 4097 (0 : Int) = 0 by omega] at h
    rw [Re.grown, Re.weigh, h]
    by_cases h5 : p.op = 5
    · have hbd := Pay.badRep_false (hok.1 h5)
      rw [if_pos h5]
      by_cases hs : p.simple = true
      · rw [if_neg (by rw [hs]; simp)]
        have hs' := Pay.simple_iff.1 hs
        have c1 : (p.lo = 0 ∧ (p.hi = 1 ∨ p.hi = -1)) ∨ (p.lo = 1 ∧ p.hi = -1) := by omega
        have e : weightL (Re.weighs xs 0) p.lo p.hi = Re.weighs xs 0 + 1 := by unfold weightL; rw [if_pos c1]
        rw [e]; omega
      · have hs2 : p.simple = false := by simpa using hs
        rw [if_pos ⟨h5, hs2⟩, grown_weight hb.1 hbd.1 hbd.2 (fun h => hs (Pay.simple_iff.2 h))]
        omega
    · rw [if_neg h5, if_neg (fun h => h5 h.1)]
      omega
theorem Re.growns_weighs : ∀ (xs : List Re) (n : Int), Re.okrs xs = true → 0 ≤ n ∧ n ≤ 1073741824 → Re.growns xs (min 4097 n) = min 4097 (Re.weighs xs n)
  | [], n, _, _ => by rw [Re.growns, Re.weighs]
  | t :: ts, n, hok, hn => by
    rw [Re.okrs, Bool.and_eq_true] at hok
    have h1 := Re.grown_weigh t hok.1
    have h2 := Re.weigh_bd t hok.1
    have h3 := Re.growns_weighs ts (min 1073741824 (n + t.weigh)) hok.2 (by omega)
    rw [Re.growns, Re.weighs, h1, ← h3]
    congr 1
    omega
end
theorem Re.grown_bd {t : Re} (h : t.okr = true) : 0 ≤ t.grown ∧ t.grown ≤ 4097 := by
  have := Re.grown_weigh t h
  have := Re.weigh_bd t h
  omega
set_option maxHeartbeats 2000000 in
theorem simple_any (p : Pay) (ad : Option Addr) (n cap : Nat) (w : World) :
    Calls Try.prog 94 #[.agg #[.int .i64 p.op, .int .u64 p.set.a, .int .u64 p.set.b, .int .u64 p.set.c, .int .u64 p.set.d, .int .i64 p.lo, .int .i64 p.hi, .int .i64 p.gr, .slice ad n cap]] w fun e w' => e = .returned (.bool p.simple) ∧ Below w.heap.size w w' := by
  have hS : p.simple = ((decide (p.lo = 0) && decide (p.hi = 1)) || (decide (p.lo ≤ 1) && decide (p.hi = -1))) := rfl
  rw [hS]
  by_cases c1 : p.lo = 0
  · have d1 : (p.lo == 0) = true := by simpa using c1
    by_cases c2 : p.hi = 1
    · have d2 : (p.hi == 1) = true := by simpa using c2
      go_enter Try.func94, Try.ntmps94
      go_wp2_with fail
      all_goals go_ret
      all_goals exact ⟨ret_bool (by simp [c1, c2]), (Below.refl _ w).alloc (Nat.le_refl _) _⟩
    · have d2 : (p.hi == 1) = false := by simpa using c2
      have d3 : decide (p.lo ≤ 1) = true := by simp; omega
      go_enter Try.func94, Try.ntmps94
      go_wp2_with fail
      all_goals go_ret
      all_goals exact ⟨ret_bool (by simp [c1, c2]; rfl), (Below.refl _ w).alloc (Nat.le_refl _) _⟩
  · have d1 : (p.lo == 0) = false := by simpa using c1
    by_cases c2 : p.lo ≤ 1
    · have d3 : decide (p.lo ≤ 1) = true := by simpa using c2
      go_enter Try.func94, Try.ntmps94
      go_wp2_with fail
      all_goals go_ret
      all_goals exact ⟨ret_bool (by simp [c1, c2]; rfl), (Below.refl _ w).alloc (Nat.le_refl _) _⟩
    · have d3 : decide (p.lo ≤ 1) = false := by simpa using c2
      go_enter Try.func94, Try.ntmps94
      go_wp2_with fail
      all_goals go_ret
      all_goals exact ⟨ret_bool (by simp), (Below.refl _ w).alloc (Nat.le_refl _) _⟩

set_option maxRecDepth 100000 in
set_option maxHeartbeats 4000000 in
theorem grown_any (wb : World) (t : Re) : ∀ (w : World) (cs : List Value), t.In wb cs → Below wb.heap.size wb w → t.okr = true → t.size ≤ 1048576 →
    Calls Try.prog 63 #[.agg cs.toArray] w fun e w' => e = .returned (.int .i64 t.grown) ∧ Below w.heap.size w w' := by
  induction t using Re.ind with
  | h p xs ih =>
    intro w cs hIn hbw hok hsz
    rw [Re.In] at hIn
    obtain ⟨ad, cap, rfl, hwf, hlc, hcm, hnil, hall⟩ := hIn
    rw [Re.size_mk] at hsz
    have hlen := Re.sizes_len xs
    have HIH := hid ih
    have HAL := hid hall
    have HBW := hid hbw
    rw [Re.okr, Bool.and_eq_true, decide_eq_true_eq] at hok
    have HOK := hid hok
    clear ih hall hwf hbw hok
    simp only [Pay.cells]
    go_enter Try.func63, Try.ntmps63
    go_wp2_with fail
    go_loopw [3, 4] (fun n i wr => ∃ (k : Nat) (N : Int), k ≤ xs.length ∧ n = .int .i64 N ∧ i = .int .i64 k ∧ (0 ≤ N ∧ N ≤ 4097) ∧ Hid (N = Re.growns (xs.take k) 0) ∧ Hid (Row wr w.heap.size [.int .i64 p.op, .int .u64 p.set.a, .int .u64 p.set.b, .int .u64 p.set.c, .int .u64 p.set.d, .int .i64 p.lo, .int .i64 p.hi, .int .i64 p.gr, .slice ad xs.length cap] 28 ∧ Below w.heap.size w wr)) (fun _ i _ => xs.length - (intOf i).toNat)
    case atStart =>
      refine ⟨0, 0, by omega, rfl, rfl, by omega, by simp [Re.growns, Hid], Row.new (cs := [.int .i64 p.op, .int .u64 p.set.a, .int .u64 p.set.b, .int .u64 p.set.c, .int .u64 p.set.d, .int .i64 p.lo, .int .i64 p.hi, .int .i64 p.gr, .slice ad xs.length cap]) rfl, (Below.refl _ w).alloc (Nat.le_refl _) _⟩
    case round =>
      obtain ⟨k, N, hk, rfl, rfl, ⟨hN1, hN2⟩, HN, HX⟩ := hrel
      have q1 := HX.out.1.c9
      have hB := HX.out.1.lt
      have HBL : Hid (Below wb.heap.size wb wr) := HBW.out.trans (HX.out.2.mono HBW.out.size)
      by_cases hlt : k < xs.length
      · obtain ⟨b, o, p', ad', n', cap', rfl, HC, HI0, hbb⟩ := HAL.out.kid HBL.out k hlt
        go_wp2_with (first | (with_reducible (refine wpList_load_agg rfl 28 _ rfl b (o + (k * 9)) rfl _ _ HC.out Try.underlying28 rfl (size_re9 _ _ _ _ _ _ _ _ _) ?_)))
        have hsg := Re.size_get (xs := xs) (i := k) (a := xs[k]) (by simp [hlt])
        have hTK := Re.growns_take xs k xs[k] 0 (by simp [hlt])
        have hWb := Re.grown_bd (Re.okrs_get xs HOK.out.2 k hlt)
        refine (HIH.out xs[k] (by simp) _ _ HI0.out HBL.out (Re.okrs_get xs HOK.out.2 k hlt) (by omega)).mono ?_
        rintro e w2 ⟨rfl, hb2⟩
        have HX2 := hid (And.intro (HX.out.1.below hb2 hB) (HX.out.2.trans (hb2.mono HX.out.2.size)))
        rw [← HN.out] at hTK
        generalize xs[k].grown = W at *
        have HTK := hid hTK
        obtain ⟨hW1, hW2⟩ := hWb
        clear hb2 hTK q1 hsg
        go_wp2_with fail
        refine (limited_any _ _).mono ?_
        rintro e w3 ⟨rfl, rfl⟩
        go_wp2_with fail
        go_roundw
        case rel =>
          exact ⟨k + 1, min 4097 (N + W), by omega, rfl, by go_num, by omega, HTK.out.symm, HX2.out⟩
        case measure => simp [intOf]; omega
      · obtain rfl : k = xs.length := by omega
        have hNN := HN.out
        rw [List.take_length] at hNN
        rcases (show (p.op != 5) = false ∨ (p.op != 5) = true by cases (p.op != 5) <;> simp) with d5 | d5
        · have h5 : p.op = 5 := by simpa using d5
          have hbd := Pay.badRep_false (HOK.out.1 h5)
          have HBD := hid hbd
          have H5 := hid h5
          have HNN := hid hNN
          clear hbd h5 hNN
          go_wp2_with fail
          refine (simple_any p ad xs.length cap _).mono ?_
          rintro e w2 ⟨rfl, hb2⟩
          have hr2 := HX.out.1.below hb2 HX.out.1.lt
          have q2 := hr2.c9
          have z2 := hr2.lt
          have HB2 : Hid (Below w.heap.size w w2) := HX.out.2.trans (hb2.mono HX.out.2.size)
          clear hb2 hr2 q1
          rcases (show p.simple = true ∨ p.simple = false by cases p.simple <;> simp) with ds | ds
          · have hE := hid (show (Re.mk p xs).grown = min 4097 (N + 1) by rw [Re.grown, if_neg (by rw [ds]; simp), HNN.out])
            go_wp2_with fail
            refine (limited_any _ _).mono ?_
            rintro e w3 ⟨rfl, rfl⟩
            go_wp2_with fail
            all_goals go_ret
            all_goals exact ⟨ret_int hE.out.symm, HB2.out⟩
          · have hE := hid (show (Re.mk p xs).grown = grownL N p.lo p.hi by rw [Re.grown, if_pos ⟨H5.out, ds⟩, HNN.out])
            have hnot : Hid (¬ ((p.lo = 0 ∧ p.hi = 1) ∨ (p.lo ≤ 1 ∧ p.hi = -1))) := fun h => by have h1 := Pay.simple_iff.2 h; rw [h1] at ds; cases ds
            obtain ⟨⟨hl1, hl2⟩, hhi⟩ := HBD.out
            clear HBD HOK
            generalize p.lo = lo at *
            generalize p.hi = hi at *
            by_cases c2 : hi = 0
            · obtain rfl := c2
              go_wp2_with fail
              all_goals go_ret
              all_goals exact ⟨ret_int (by rw [hE.out]; unfold grownL; rw [if_pos rfl]), HB2.out⟩
            have e2 : (hi == 0) = false := by simpa using c2
            by_cases c3 : lo = 1 ∧ hi = 1
            · obtain ⟨rfl, rfl⟩ := c3
              go_wp2_with fail
              all_goals go_ret
              all_goals exact ⟨ret_int (by rw [hE.out]; unfold grownL; rw [if_neg c2, if_pos ⟨rfl, rfl⟩]), HB2.out⟩
            have hm1 : 0 ≤ lo * N := Int.mul_nonneg hl1 hN1
            have hm2 : lo * N ≤ 262208 := by have := Int.mul_le_mul hl2 hN2 hN1 (by decide : (0 : Int) ≤ 64); omega
            by_cases c5 : hi = -1
            · obtain rfl := c5
              have hl3 : 2 ≤ lo := by
                have h := hnot.out
                rcases (by omega : lo < 2 ∨ 2 ≤ lo) with h9 | h9
                · exact (h (.inr ⟨by omega, rfl⟩)).elim
                · exact h9
              have e3 : (lo == 1) = false := by simp; omega
              go_wp2_with fail
              refine (limited_any _ _).mono ?_
              rintro e w3 ⟨rfl, rfl⟩
              go_wp2_with fail
              all_goals go_ret
              all_goals exact ⟨ret_int (by rw [hE.out]; unfold grownL; rw [if_neg c2, if_neg c3, if_pos rfl]), HB2.out⟩
            · have e4 : (hi == -1) = false := by simpa using c5
              have h7 : lo ≤ hi := by omega
              have h8 : hi ≤ 64 := by omega
              have g1 : 0 ≤ (hi - lo) * (N + 1) := Int.mul_nonneg (by omega) (by omega)
              have g2 : (hi - lo) * (N + 1) ≤ 262272 := by have := Int.mul_le_mul (show hi - lo ≤ 64 by omega) (show N + 1 ≤ 4098 by omega) (by omega) (by decide : (0 : Int) ≤ 64); omega
              rcases (show (lo == 1) = true ∨ (lo == 1) = false by cases (lo == 1) <;> simp) with d6 | d6
              · have d7 : (hi == 1) = false := by
                  have : lo = 1 := by simpa using d6
                  simp; exact fun h => c3 ⟨this, h⟩
                clear hhi c3
                go_wp2_with fail
                refine (limited_any _ _).mono ?_
                rintro e w3 ⟨rfl, rfl⟩
                go_wp2_with fail
                all_goals go_ret
                all_goals exact ⟨ret_int (by rw [hE.out]; unfold grownL; rw [if_neg c2, if_neg (by simp at d6 d7; omega), if_neg c5]), HB2.out⟩
              · clear hhi c3
                go_wp2_with fail
                refine (limited_any _ _).mono ?_
                rintro e w3 ⟨rfl, rfl⟩
                go_wp2_with fail
                all_goals go_ret
                all_goals exact ⟨ret_int (by rw [hE.out]; unfold grownL; rw [if_neg c2, if_neg (by simp at d6; omega), if_neg c5]), HB2.out⟩
        · have h5 : ¬ p.op = 5 := by simpa using d5
          have hE := hid (show (Re.mk p xs).grown = min 4097 (N + 1) by rw [Re.grown, if_neg (fun h => h5 h.1), hNN])
          clear h5 hNN
          go_wp2_with fail
          refine (limited_any _ _).mono ?_
          rintro e w3 ⟨rfl, rfl⟩
          go_wp2_with fail
          all_goals go_ret
          all_goals exact ⟨ret_int hE.out.symm, HX.out.2⟩
end Go.Proofs.Ythnpbopnpdlmnaa

/- Two trees one after the other, and as alternatives: the plain law. No program. -/
namespace Go.Proofs.Ythnpbopnpdlmnaa
open Go.RowKit

theorem Re.rep_pay {p : Pay} {xs : List Re} (h : (Re.mk p xs).typed = true) (hop : p.op = 5) : p = Pay.ofRep p.lo p.hi := by
  rw [Re.typed] at h
  simp only [Bool.and_eq_true] at h
  have h1 := h.1
  unfold Pay.shaped at h1
  simp [hop] at h1
  obtain ⟨op, set, lo, hi, gr⟩ := p
  simp only at hop h1 ⊢
  unfold Pay.ofRep
  rw [hop, h1.2, h1.1.2]


end Go.Proofs.Ythnpbopnpdlmnaa
