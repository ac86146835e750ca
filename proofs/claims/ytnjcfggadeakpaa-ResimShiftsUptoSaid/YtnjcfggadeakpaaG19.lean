/- The reference's grown: the number of nodes of the expanded tree, at most 4097. -/
import Derived.Test.YtnjcfggadeakpaaG13
import Derived.Test.YtnjcfggadeakpaaG11
import Derived.Test.YtnjcfggadeakpaaG03
namespace Go.Proofs.Ytnjcfggadeakpaa
open Go.RowKit
attribute [local go_sem] gives givesUpon

def Pay.simple (p : Pay) : Bool := (decide (p.lo = 0) && decide (p.hi = 1)) || (decide (p.lo ≤ 1) && decide (p.hi = -1))
def grownL (n lo hi : Int) : Int := if hi = 0 then 1 else if lo = 1 ∧ hi = 1 then n else if hi = -1 then min 4097 (lo * n + 2) else min 4097 (lo * n + (hi - lo) * (n + 1) + 1)
mutual
def Re.grown : Re → Int
  | .mk p xs => if p.op = 5 ∧ p.simple = false then grownL (Re.growns xs 0) p.lo p.hi else min 4097 (Re.growns xs 0 + 1)
def Re.growns : List Re → Int → Int
  | [], n => n
  | t :: ts, n => Re.growns ts (min 4097 (n + t.grown))
end
theorem Re.growns_take : ∀ (xs : List Re) (k : Nat) (a : Re) (n : Int), xs[k]? = some a → Re.growns (xs.take (k + 1)) n = min 4097 (Re.growns (xs.take k) n + a.grown)
  | t :: ts, 0, a, n, h => by simp at h; subst h; simp [Re.growns]
  | t :: ts, k + 1, a, n, h => by
    rw [List.take_succ_cons, List.take_succ_cons, Re.growns, Re.growns]
    exact Re.growns_take ts k a _ (by simpa using h)

theorem grown_weight {n lo hi : Int} (hn : 0 ≤ n) (hlo : 0 ≤ lo ∧ lo ≤ 64) (hhi : hi = -1 ∨ (lo ≤ hi ∧ hi ≤ 64)) (hs : ¬ ((lo = 0 ∧ hi = 1) ∨ (lo ≤ 1 ∧ hi = -1))) : grownL (min 4097 n) lo hi = min 4097 (weightL n lo hi) := by
  have c1 : ¬ ((lo = 0 ∧ (hi = 1 ∨ hi = -1)) ∨ (lo = 1 ∧ hi = -1)) := by omega
  unfold grownL weightL
  rw [if_neg c1]
  by_cases c2 : hi = 0
  · rw [if_pos c2, if_pos c2]; omega
  rw [if_neg c2, if_neg c2]
  by_cases c3 : lo = 1 ∧ hi = 1
  · rw [if_pos c3, if_pos c3]
  rw [if_neg c3, if_neg c3]
  by_cases h97 : n ≤ 4097
  · have e : min 4097 n = n := by omega
    rw [e]
    by_cases c4 : hi = lo
    · rw [if_pos c4, if_neg (by omega)]
      subst c4
      simp only [Int.sub_self, Int.zero_mul]
      omega
    · rw [if_neg c4]
      by_cases c5 : hi = -1
      · rw [if_pos c5, if_pos c5]; omega
      · rw [if_neg c5, if_neg c5]; omega
  · have e : min 4097 n = 4097 := by omega
    rw [e]
    have h1 : 0 ≤ lo * n := Int.mul_nonneg hlo.1 hn
    by_cases c5 : hi = -1
    · rw [if_pos c5, if_neg (by omega), if_pos c5]
      have h2 : 1 * n ≤ lo * n := Int.mul_le_mul_of_nonneg_right (by omega) hn
      have h3 : 1 * 4097 ≤ lo * 4097 := Int.mul_le_mul_of_nonneg_right (by omega) (by omega)
      omega
    · rw [if_neg c5]
      have h5 : 0 ≤ lo * 4097 := Int.mul_nonneg hlo.1 (by omega)
      by_cases c4 : hi = lo
      · rw [if_pos c4]
        have h2 : 1 * n ≤ lo * n := Int.mul_le_mul_of_nonneg_right (by omega) hn
        have h3 : 1 * 4097 ≤ lo * 4097 := Int.mul_le_mul_of_nonneg_right (by omega) (by omega)
        have h4 : 0 ≤ (hi - lo) * (4097 + 1) := Int.mul_nonneg (by omega) (by omega)
        omega
      · rw [if_neg c4, if_neg c5]
        have h2 : 1 * (n + 1) ≤ (hi - lo) * (n + 1) := Int.mul_le_mul_of_nonneg_right (by omega) (by omega)
        have h3 : 1 * (4097 + 1) ≤ (hi - lo) * (4097 + 1) := Int.mul_le_mul_of_nonneg_right (by omega) (by omega)
        omega
theorem Pay.simple_iff {p : Pay} : p.simple = true ↔ ((p.lo = 0 ∧ p.hi = 1) ∨ (p.lo ≤ 1 ∧ p.hi = -1)) := by simp [Pay.simple]
mutual
theorem Re.grown_weigh : ∀ (t : Re), t.okr = true → t.grown = min 4097 t.weigh
  | .mk p xs, hok => by
    rw [Re.okr, Bool.and_eq_true, decide_eq_true_eq] at hok
    have hb := Re.weighs_bd xs 0 hok.2 (by omega)
    have h := Re.growns_weighs xs 0 hok.2 (by omega)
    rw [show min 4097 (0 : Int) = 0 by omega] at h
    rw [Re.grown, Re.weigh, h]
    by_cases h5 : p.op = 5
    · have hbd := Pay.badRep_false (hok.1 h5)
      rw [if_pos h5]
      by_cases hs : p.simple = true
      · rw [if_neg (by rw [hs]; simp)]
        have hs' := Pay.simple_iff.1 hs
        have c1 : (p.lo = 0 ∧ (p.hi = 1 ∨ p.hi = -1)) ∨ (p.lo = 1 ∧ p.hi = -1) := by omega
        have e : weightL (Re.weighs xs 0) p.lo p.hi = Re.weighs xs 0 + 1 := by unfold weightL; rw [if_pos c1]
        rw [e]; omega
      · have hs2 : p.simple = false := by simpa using hs
        rw [if_pos ⟨h5, hs2⟩, grown_weight hb.1 hbd.1 hbd.2 (fun h => hs (Pay.simple_iff.2 h))]
        omega
    · rw [if_neg h5, if_neg (fun h => h5 h.1)]
      omega
theorem Re.growns_weighs : ∀ (xs : List Re) (n : Int), Re.okrs xs = true → 0 ≤ n ∧ n ≤ 1073741824 → Re.growns xs (min 4097 n) = min 4097 (Re.weighs xs n)
  | [], n, _, _ => by rw [Re.growns, Re.weighs]
  | t :: ts, n, hok, hn => by
    rw [Re.okrs, Bool.and_eq_true] at hok
    have h1 := Re.grown_weigh t hok.1
    have h2 := Re.weigh_bd t hok.1
    have h3 := Re.growns_weighs ts (min 1073741824 (n + t.weigh)) hok.2 (by omega)
    rw [Re.growns, Re.weighs, h1, ← h3]
    congr 1
    omega
end
theorem Re.grown_bd {t : Re} (h : t.okr = true) : 0 ≤ t.grown ∧ t.grown ≤ 4097 := by
  have := Re.grown_weigh t h
  have := Re.weigh_bd t h
  omega
theorem Re.growns_bd {xs : List Re} {n : Int} (h : Re.okrs xs = true) (hn : 0 ≤ n ∧ n ≤ 4097) : 0 ≤ Re.growns xs n ∧ Re.growns xs n ≤ 4097 := by
  have h1 := Re.growns_weighs xs n h (by omega)
  have h2 := Re.weighs_bd xs n h (by omega)
  have e : min 4097 n = n := by omega
  rw [e] at h1
  omega

-- def BL := [.int .i64 p.op, .int .u64 p.set.a, .int .u64 p.set.b, .int .u64 p.set.c, .int .u64 p.set.d, .int .i64 p.lo, .int .i64 p.hi, .int .i64 p.gr, .slice ad n cap]
-- def BX := [.int .i64 p.op, .int .u64 p.set.a, .int .u64 p.set.b, .int .u64 p.set.c, .int .u64 p.set.d, .int .i64 p.lo, .int .i64 p.hi, .int .i64 p.gr, .slice ad xs.length cap]
set_option maxHeartbeats 2000000 in
theorem simple_any (p : Pay) (ad : Option Addr) (n cap : Nat) (w : World) :
    Calls Try.prog 71 #[.agg #[.int .i64 p.op, .int .u64 p.set.a, .int .u64 p.set.b, .int .u64 p.set.c, .int .u64 p.set.d, .int .i64 p.lo, .int .i64 p.hi, .int .i64 p.gr, .slice ad n cap]] w fun e w' => e = .returned (.bool p.simple) ∧ Below w.heap.size w w' := by
  have hS : p.simple = ((decide (p.lo = 0) && decide (p.hi = 1)) || (decide (p.lo ≤ 1) && decide (p.hi = -1))) := rfl
  rw [hS]
  by_cases c1 : p.lo = 0
  · have d1 : (p.lo == 0) = true := by simpa using c1
    by_cases c2 : p.hi = 1
    · have d2 : (p.hi == 1) = true := by simpa using c2
      go_enter Try.func71, Try.ntmps71
      go_wp2_with fail
      all_goals go_ret
      all_goals exact ⟨ret_bool (by simp [c1, c2]), (Below.refl _ w).alloc (Nat.le_refl _) _⟩
    · have d2 : (p.hi == 1) = false := by simpa using c2
      have d3 : decide (p.lo ≤ 1) = true := by simp; omega
      go_enter Try.func71, Try.ntmps71
      go_wp2_with fail
      all_goals go_ret
      all_goals exact ⟨ret_bool (by simp [c1, c2]; rfl), (Below.refl _ w).alloc (Nat.le_refl _) _⟩
  · have d1 : (p.lo == 0) = false := by simpa using c1
    by_cases c2 : p.lo ≤ 1
    · have d3 : decide (p.lo ≤ 1) = true := by simpa using c2
      go_enter Try.func71, Try.ntmps71
      go_wp2_with fail
      all_goals go_ret
      all_goals exact ⟨ret_bool (by simp [c1, c2]; rfl), (Below.refl _ w).alloc (Nat.le_refl _) _⟩
    · have d3 : decide (p.lo ≤ 1) = false := by simpa using c2
      go_enter Try.func71, Try.ntmps71
      go_wp2_with fail
      all_goals go_ret
      all_goals exact ⟨ret_bool (by simp), (Below.refl _ w).alloc (Nat.le_refl _) _⟩

set_option maxRecDepth 100000 in
set_option maxHeartbeats 4000000 in
theorem grown_any (wb : World) (t : Re) : ∀ (w : World) (cs : List Value), t.In wb cs → Below wb.heap.size wb w → t.okr = true → t.size ≤ 1048576 →
    Calls Try.prog 49 #[.agg cs.toArray] w fun e w' => e = .returned (.int .i64 t.grown) ∧ Below w.heap.size w w' := by
  induction t using Re.ind with
  | h p xs ih =>
    intro w cs hIn hbw hok hsz
    rw [Re.In] at hIn
    obtain ⟨ad, cap, rfl, hwf, hlc, hcm, hnil, hall⟩ := hIn
    rw [Re.size_mk] at hsz
    have hlen := Re.sizes_len xs
    have HIH := hid ih
    have HAL := hid hall
    have HBW := hid hbw
    rw [Re.okr, Bool.and_eq_true, decide_eq_true_eq] at hok
    have HOK := hid hok
    clear ih hall hwf hbw hok
    simp only [Pay.cells]
    go_enter Try.func49, Try.ntmps49
    go_wp2_with fail
    go_loopw [3, 4] (fun n i wr => ∃ (k : Nat) (N : Int), k ≤ xs.length ∧ n = .int .i64 N ∧ i = .int .i64 k ∧ (0 ≤ N ∧ N ≤ 4097) ∧ Hid (N = Re.growns (xs.take k) 0) ∧ Hid (Row wr w.heap.size [.int .i64 p.op, .int .u64 p.set.a, .int .u64 p.set.b, .int .u64 p.set.c, .int .u64 p.set.d, .int .i64 p.lo, .int .i64 p.hi, .int .i64 p.gr, .slice ad xs.length cap] 55 ∧ Below w.heap.size w wr)) (fun _ i _ => xs.length - (intOf i).toNat)
    case atStart =>
      refine ⟨0, 0, by omega, rfl, rfl, by omega, by simp [Re.growns, Hid], Row.new (cs := [.int .i64 p.op, .int .u64 p.set.a, .int .u64 p.set.b, .int .u64 p.set.c, .int .u64 p.set.d, .int .i64 p.lo, .int .i64 p.hi, .int .i64 p.gr, .slice ad xs.length cap]) rfl, (Below.refl _ w).alloc (Nat.le_refl _) _⟩
    case round =>
      obtain ⟨k, N, hk, rfl, rfl, ⟨hN1, hN2⟩, HN, HX⟩ := hrel
      have q1 := HX.out.1.c9
      have hB := HX.out.1.lt
      have HBL : Hid (Below wb.heap.size wb wr) := HBW.out.trans (HX.out.2.mono HBW.out.size)
      by_cases hlt : k < xs.length
      · obtain ⟨b, o, p', ad', n', cap', rfl, HC, HI0, hbb⟩ := HAL.out.kid HBL.out k hlt
        go_wp2_with (first | (with_reducible (refine wpList_load_agg rfl 55 _ rfl b (o + (k * 9)) rfl _ _ HC.out Try.underlying55 rfl (size_re9 _ _ _ _ _ _ _ _ _) ?_)))
        have hsg := Re.size_get (xs := xs) (i := k) (a := xs[k]) (by simp [hlt])
        have hTK := Re.growns_take xs k xs[k] 0 (by simp [hlt])
        have hWb := Re.grown_bd (Re.okrs_get xs HOK.out.2 k hlt)
        refine (HIH.out xs[k] (by simp) _ _ HI0.out HBL.out (Re.okrs_get xs HOK.out.2 k hlt) (by omega)).mono ?_
        rintro e w2 ⟨rfl, hb2⟩
        have HX2 := hid (And.intro (HX.out.1.below hb2 hB) (HX.out.2.trans (hb2.mono HX.out.2.size)))
        rw [← HN.out] at hTK
        generalize xs[k].grown = W at *
        have HTK := hid hTK
        obtain ⟨hW1, hW2⟩ := hWb
        clear hb2 hTK q1 hsg
        go_wp2_with fail
        refine (limited_any _ _).mono ?_
        rintro e w3 ⟨rfl, rfl⟩
        go_wp2_with fail
        go_roundw
        case rel =>
          exact ⟨k + 1, min 4097 (N + W), by omega, rfl, by go_num, by omega, HTK.out.symm, HX2.out⟩
        case measure => simp [intOf]; omega
      · obtain rfl : k = xs.length := by omega
        have hNN := HN.out
        rw [List.take_length] at hNN
        rcases (show (p.op != 5) = false ∨ (p.op != 5) = true by cases (p.op != 5) <;> simp) with d5 | d5
        · have h5 : p.op = 5 := by simpa using d5
          have hbd := Pay.badRep_false (HOK.out.1 h5)
          have HBD := hid hbd
          have H5 := hid h5
          have HNN := hid hNN
          clear hbd h5 hNN
          go_wp2_with fail
          refine (simple_any p ad xs.length cap _).mono ?_
          rintro e w2 ⟨rfl, hb2⟩
          have hr2 := HX.out.1.below hb2 HX.out.1.lt
          have q2 := hr2.c9
          have z2 := hr2.lt
          have HB2 : Hid (Below w.heap.size w w2) := HX.out.2.trans (hb2.mono HX.out.2.size)
          clear hb2 hr2 q1
          rcases (show p.simple = true ∨ p.simple = false by cases p.simple <;> simp) with ds | ds
          · have hE := hid (show (Re.mk p xs).grown = min 4097 (N + 1) by rw [Re.grown, if_neg (by rw [ds]; simp), HNN.out])
            go_wp2_with fail
            refine (limited_any _ _).mono ?_
            rintro e w3 ⟨rfl, rfl⟩
            go_wp2_with fail
            all_goals go_ret
            all_goals exact ⟨ret_int hE.out.symm, HB2.out⟩
          · have hE := hid (show (Re.mk p xs).grown = grownL N p.lo p.hi by rw [Re.grown, if_pos ⟨H5.out, ds⟩, HNN.out])
            have hnot : Hid (¬ ((p.lo = 0 ∧ p.hi = 1) ∨ (p.lo ≤ 1 ∧ p.hi = -1))) := fun h => by have h1 := Pay.simple_iff.2 h; rw [h1] at ds; cases ds
            obtain ⟨⟨hl1, hl2⟩, hhi⟩ := HBD.out
            clear HBD HOK
            generalize p.lo = lo at *
            generalize p.hi = hi at *
            by_cases c2 : hi = 0
            · obtain rfl := c2
              go_wp2_with fail
              all_goals go_ret
              all_goals exact ⟨ret_int (by rw [hE.out]; unfold grownL; rw [if_pos rfl]), HB2.out⟩
            have e2 : (hi == 0) = false := by simpa using c2
            by_cases c3 : lo = 1 ∧ hi = 1
            · obtain ⟨rfl, rfl⟩ := c3
              go_wp2_with fail
              all_goals go_ret
              all_goals exact ⟨ret_int (by rw [hE.out]; unfold grownL; rw [if_neg c2, if_pos ⟨rfl, rfl⟩]), HB2.out⟩
            have hm1 : 0 ≤ lo * N := Int.mul_nonneg hl1 hN1
            have hm2 : lo * N ≤ 262208 := by have := Int.mul_le_mul hl2 hN2 hN1 (by decide : (0 : Int) ≤ 64); omega
            by_cases c5 : hi = -1
            · obtain rfl := c5
              have hl3 : 2 ≤ lo := by
                have h := hnot.out
                rcases (by omega : lo < 2 ∨ 2 ≤ lo) with h9 | h9
                · exact (h (.inr ⟨by omega, rfl⟩)).elim
                · exact h9
              have e3 : (lo == 1) = false := by simp; omega
              go_wp2_with fail
              refine (limited_any _ _).mono ?_
              rintro e w3 ⟨rfl, rfl⟩
              go_wp2_with fail
              all_goals go_ret
              all_goals exact ⟨ret_int (by rw [hE.out]; unfold grownL; rw [if_neg c2, if_neg c3, if_pos rfl]), HB2.out⟩
            · have e4 : (hi == -1) = false := by simpa using c5
              have h7 : lo ≤ hi := by omega
              have h8 : hi ≤ 64 := by omega
              have g1 : 0 ≤ (hi - lo) * (N + 1) := Int.mul_nonneg (by omega) (by omega)
              have g2 : (hi - lo) * (N + 1) ≤ 262272 := by have := Int.mul_le_mul (show hi - lo ≤ 64 by omega) (show N + 1 ≤ 4098 by omega) (by omega) (by decide : (0 : Int) ≤ 64); omega
              rcases (show (lo == 1) = true ∨ (lo == 1) = false by cases (lo == 1) <;> simp) with d6 | d6
              · have d7 : (hi == 1) = false := by
                  have : lo = 1 := by simpa using d6
                  simp; exact fun h => c3 ⟨this, h⟩
                clear hhi c3
                go_wp2_with fail
                refine (limited_any _ _).mono ?_
                rintro e w3 ⟨rfl, rfl⟩
                go_wp2_with fail
                all_goals go_ret
                all_goals exact ⟨ret_int (by rw [hE.out]; unfold grownL; rw [if_neg c2, if_neg (by simp at d6 d7; omega), if_neg c5]), HB2.out⟩
              · clear hhi c3
                go_wp2_with fail
                refine (limited_any _ _).mono ?_
                rintro e w3 ⟨rfl, rfl⟩
                go_wp2_with fail
                all_goals go_ret
                all_goals exact ⟨ret_int (by rw [hE.out]; unfold grownL; rw [if_neg c2, if_neg (by simp at d6; omega), if_neg c5]), HB2.out⟩
        · have h5 : ¬ p.op = 5 := by simpa using d5
          have hE := hid (show (Re.mk p xs).grown = min 4097 (N + 1) by rw [Re.grown, if_neg (fun h => h5 h.1), hNN])
          clear h5 hNN
          go_wp2_with fail
          refine (limited_any _ _).mono ?_
          rintro e w3 ⟨rfl, rfl⟩
          go_wp2_with fail
          all_goals go_ret
          all_goals exact ⟨ret_int hE.out.symm, HX.out.2⟩
end Go.Proofs.Ytnjcfggadeakpaa

/- Two trees one after the other, and as alternatives: the plain law. No program. -/
namespace Go.Proofs.Ytnjcfggadeakpaa
open Go.RowKit

theorem Re.rep_pay {p : Pay} {xs : List Re} (h : (Re.mk p xs).typed = true) (hop : p.op = 5) : p = Pay.ofRep p.lo p.hi := by
  rw [Re.typed] at h
  simp only [Bool.and_eq_true] at h
  have h1 := h.1
  unfold Pay.shaped at h1
  simp [hop] at h1
  obtain ⟨op, set, lo, hi, gr⟩ := p
  simp only at hop h1 ⊢
  unfold Pay.ofRep
  rw [hop, h1.2, h1.1.2]

def Re.cat2 (a b : Re) : Re := .mk (Pay.of 3) [a, b]
def Re.alt2 (a b : Re) : Re := .mk (Pay.of 4) [a, b]

theorem Re.err_of {t : Re} (h1 : t.typed = true) (h2 : (t.ranged 0).isSome = true) (h3 : (t.named []).isSome = true) (h4 : t.size ≤ 600 ∧ t.groups ≤ 9 ∧ t.levels ≤ 32) : t.err = 0 := by
  unfold Re.err
  have h2' : (t.ranged 0).isNone = false := by cases hx : t.ranged 0 with | none => rw [hx] at h2; cases h2 | some n => rfl
  have h3' : (t.named []).isNone = false := by cases hx : t.named [] with | none => rw [hx] at h3; cases h3 | some n => rfl
  rw [h1, h2', h3']
  simp
  omega

mutual
/-- Without groups, no name is closed. -/
theorem Re.named_nogroup : ∀ (t : Re) (l l' : List Int), t.groups = 0 → t.named l = some l' → l' = l
  | .mk p xs, l, l', hg, h => by
    simp only [Re.groups, Re.count] at hg
    rw [Re.named] at h
    split at h
    · cases h
    · cases hx : Re.nameds xs l with
      | none => rw [hx] at h; cases h
      | some l2 =>
        rw [hx] at h
        have h2 := Re.nameds_nogroup xs l l2 (by omega) hx
        have h6 : ¬ p.op = 6 := by intro h6; simp [h6] at hg
        dsimp only at h
        rw [if_neg h6] at h
        exact (Option.some.inj h).symm.trans h2
theorem Re.nameds_nogroup : ∀ (xs : List Re) (l l' : List Int), Re.counts (· == 6) xs = 0 → Re.nameds xs l = some l' → l' = l
  | [], l, l', _, h => by rw [Re.nameds] at h; exact (Option.some.inj h).symm
  | t :: ts, l, l', hg, h => by
    rw [Re.counts] at hg
    rw [Re.nameds] at h
    cases hx : t.named l with
    | none => rw [hx] at h; cases h
    | some l2 =>
      rw [hx] at h
      have h1 := Re.named_nogroup t l l2 (by simp only [Re.groups]; omega) hx
      have h2 := Re.nameds_nogroup ts l2 l' (by omega) h
      exact h2.trans h1
end
mutual
theorem Re.learn_nogroup : ∀ (t : Re) (g : Int → Option Facts), t.groups = 0 → (t.learn g).2 = g
  | .mk p xs, g, hg => by
    simp only [Re.groups, Re.count] at hg
    have h6 : ¬ p.op = 6 := by intro h6; simp [h6] at hg
    have h2 := Re.learns_nogroup xs g (by omega)
    rw [Re.learn]
    unfold Pay.learn
    split
    · exact h2
    split
    · exact h2
    split
    · exact h2
    split
    · exact h2
    split
    · exact h2
    · exact h2
theorem Re.learns_nogroup : ∀ (xs : List Re) (g : Int → Option Facts), Re.counts (· == 6) xs = 0 → (Re.learns xs g).2 = g
  | [], g, _ => by rw [Re.learns]
  | t :: ts, g, hg => by
    rw [Re.counts] at hg
    rw [Re.learns]
    simp only []
    rw [Re.learns_nogroup ts _ (by omega), Re.learn_nogroup t g (by simp only [Re.groups]; omega)]
end

theorem lsum_nonneg {a b : Int} (ha : 0 ≤ a) (hb : 0 ≤ b) : 0 ≤ lsum a b := by unfold lsum; split <;> omega
theorem ltimes_nonneg {a n : Int} (ha : 0 ≤ a) (hn : 0 ≤ n) : 0 ≤ ltimes a n := by
  unfold ltimes
  have := Int.mul_nonneg ha hn
  split
  · omega
  · split
    · omega
    · omega
def GLe (g : Int → Option Facts) : Prop := ∀ k f, g k = some f → 0 ≤ f.least
theorem foldl_least (f : Facts → Facts → Facts) (hf : ∀ a b, 0 ≤ a.least → 0 ≤ b.least → 0 ≤ (f a b).least) : ∀ (l : List Facts) (a : Facts), 0 ≤ a.least → (∀ b, b ∈ l → 0 ≤ b.least) → 0 ≤ (l.foldl f a).least
  | [], a, h, _ => h
  | b :: l, a, h, hl => foldl_least f hf l _ (hf a b h (hl b (by simp))) (fun c hc => hl c (by simp [hc]))
theorem Pay.learn_least (p : Pay) (hp : p.op = 5 → 0 ≤ p.lo) (l : List Facts) (g : Int → Option Facts) (hl : ∀ b, b ∈ l → 0 ≤ b.least) (hg : GLe g) : 0 ≤ (p.learn l g).1.least ∧ GLe (p.learn l g).2 := by
  have h0 : 0 ≤ (l.headD Facts.zero).least := by
    cases l with
    | nil => exact Int.le_refl 0
    | cons f l => exact hl f (by simp)
  unfold Pay.learn
  split
  · exact ⟨by show (0 : Int) ≤ 1; decide, hg⟩
  split
  · refine ⟨?_, hg⟩
    cases l with
    | nil => exact Int.le_refl 0
    | cons f l => exact foldl_least _ (fun a b ha hb => lsum_nonneg ha hb) l f (hl f (by simp)) (fun c hc => hl c (by simp [hc]))
  split
  · refine ⟨?_, hg⟩
    cases l with
    | nil => exact Int.le_refl 0
    | cons f l => exact foldl_least _ (fun a b ha hb => by show 0 ≤ min a.least b.least; omega) l f (hl f (by simp)) (fun c hc => hl c (by simp [hc]))
  split
  · rename_i h5
    exact ⟨ltimes_nonneg h0 (hp h5), hg⟩
  split
  · refine ⟨h0, fun k f hk => ?_⟩
    dsimp only at hk
    split at hk
    · cases hk; exact h0
    · exact hg k f hk
  split
  · refine ⟨?_, hg⟩
    cases hx : g p.gr with
    | none => exact Int.le_refl 0
    | some f => exact hg _ f hx
  · exact ⟨Int.le_refl 0, hg⟩
mutual
theorem Re.learn_least : ∀ (t : Re) (g : Int → Option Facts), t.okr = true → GLe g → 0 ≤ (t.learn g).1.least ∧ GLe (t.learn g).2
  | .mk p xs, g, hok, hg => by
    rw [Re.okr, Bool.and_eq_true, decide_eq_true_eq] at hok
    have h := Re.learns_least xs g hok.2 hg
    rw [Re.learn]
    exact Pay.learn_least p (fun h5 => (Pay.badRep_false (hok.1 h5)).1.1) _ _ h.1 h.2
theorem Re.learns_least : ∀ (xs : List Re) (g : Int → Option Facts), Re.okrs xs = true → GLe g → (∀ f, f ∈ (Re.learns xs g).1 → 0 ≤ f.least) ∧ GLe (Re.learns xs g).2
  | [], g, _, hg => by rw [Re.learns]; exact ⟨fun f hf => (by cases hf), hg⟩
  | t :: ts, g, hok, hg => by
    rw [Re.okrs, Bool.and_eq_true] at hok
    have h1 := Re.learn_least t g hok.1 hg
    have h2 := Re.learns_least ts _ hok.2 h1.2
    rw [Re.learns]
    refine ⟨fun f hf => ?_, h2.2⟩
    rcases List.mem_cons.1 hf with hf | hf
    · rw [hf]; exact h1.1
    · exact h2.1 f hf
end
theorem Re.facts_least (t : Re) : 0 ≤ t.facts.least := by
  by_cases h : t.err = 0
  · rw [Re.facts_some h]
    exact (Re.learn_least t _ (Re.ranged_okr t 0 (Re.err_zero h).2.2.1) (fun k f hf => by cases hf)).1
  · rw [Re.facts_zero h]
    exact Int.le_refl 0

theorem cat2_size (a b : Re) : (a.cat2 b).size = a.size + b.size + 1 := by unfold Re.cat2; rw [Re.size_mk]; simp [Re.sizes, Re.counts, Re.size]
theorem alt2_size (a b : Re) : (a.alt2 b).size = a.size + b.size + 1 := by unfold Re.alt2; rw [Re.size_mk]; simp [Re.sizes, Re.counts, Re.size]
theorem cat2_groups (a b : Re) : (a.cat2 b).groups = a.groups + b.groups := by simp [Re.cat2, Re.groups, Re.count, Re.counts, Pay.of]
theorem alt2_groups (a b : Re) : (a.alt2 b).groups = a.groups + b.groups := by simp [Re.alt2, Re.groups, Re.count, Re.counts, Pay.of]

/-- What the law asks of two trees that are valid together. -/
structure Comp (a b : Re) : Prop where
  alt : (a.alt2 b).err = 0
  cfacts : (a.cat2 b).facts = a.facts.cat b.facts
  afacts : (a.alt2 b).facts = a.facts.alt b.facts
theorem comp_law (a b : Re) (h : (a.cat2 b).err = 0) (hg : (a.cat2 b).groups = 0) : Comp a b := by
  have he := Re.err_zero h
  obtain ⟨h1, h2, h3, h4, h5, h6, h7⟩ := he
  rw [cat2_groups] at hg
  rw [cat2_size] at h5
  have hga : a.groups = 0 := by omega
  have hgb : b.groups = 0 := by omega
  have hl : (a.cat2 b).levels = (a.alt2 b).levels := by simp [Re.cat2, Re.alt2, Re.levels]
  have hlv : a.levels ≤ 32 ∧ b.levels ≤ 32 := by simp [Re.cat2, Re.levels, Re.levelss] at h7; omega
  have ht : a.typed = true ∧ b.typed = true := by
    simp only [Re.cat2, Re.typed, Re.typeds, Bool.and_eq_true] at h1
    exact ⟨h1.2.1, h1.2.2.1⟩
  have hr : (a.ranged 0).isSome = true ∧ (b.ranged 0).isSome = true := by
    simp only [Re.cat2, Re.ranged, Re.rangeds] at h3
    rw [if_neg (by simp [Pay.of]), if_neg (by simp [Pay.of])] at h3
    cases hx : a.ranged 0 with
    | none => rw [hx] at h3; cases h3
    | some n =>
      rw [hx] at h3
      have hn := Re.ranged_groups a 0 n hx
      have hn0 : n = 0 := by omega
      subst hn0
      simp only [] at h3
      cases hy : b.ranged 0 with
      | none => rw [hy] at h3; cases h3
      | some m => exact ⟨rfl, rfl⟩
  have hn : (a.named []).isSome = true ∧ (b.named []).isSome = true := by
    simp only [Re.cat2, Re.named, Re.nameds] at h4
    rw [if_neg (by simp [Pay.of])] at h4
    cases hx : a.named [] with
    | none => rw [hx] at h4; cases h4
    | some l =>
      rw [hx] at h4
      obtain rfl := Re.named_nogroup a [] l hga hx
      simp only [] at h4
      cases hy : b.named [] with
      | none => rw [hy] at h4; cases h4
      | some m => exact ⟨rfl, rfl⟩
  have ea : a.err = 0 := Re.err_of ht.1 hr.1 hn.1 ⟨by omega, by omega, hlv.1⟩
  have eb : b.err = 0 := Re.err_of ht.2 hr.2 hn.2 ⟨by omega, by omega, hlv.2⟩
  have ealt : (a.alt2 b).err = 0 := by
    refine Re.err_of ?_ ?_ ?_ ⟨by rw [alt2_size]; omega, by rw [alt2_groups]; omega, by rw [← hl]; exact h7⟩
    · simp only [Re.alt2, Re.typed, Re.typeds, Bool.and_eq_true]
      exact ⟨(show (Pay.of 4).shaped 2 = true by decide), ht.1, ht.2, trivial⟩
    · simp only [Re.alt2, Re.ranged, Re.rangeds]
      rw [if_neg (by simp [Pay.of]), if_neg (by simp [Pay.of])]
      cases hx : a.ranged 0 with
      | none => rw [hx] at hr; cases hr.1
      | some n =>
        have hn := Re.ranged_groups a 0 n hx
        have hn0 : n = 0 := by omega
        subst hn0
        simp only []
        cases hy : b.ranged 0 with
        | none => rw [hy] at hr; cases hr.2
        | some m => rfl
    · simp only [Re.alt2, Re.named, Re.nameds]
      rw [if_neg (by simp [Pay.of])]
      cases hx : a.named [] with
      | none => rw [hx] at hn; cases hn.1
      | some l =>
        obtain rfl := Re.named_nogroup a [] l hga hx
        simp only []
        cases hy : b.named [] with
        | none => rw [hy] at hn; cases hn.2
        | some m => simp [Pay.of]
  refine ⟨ealt, ?_, ?_⟩
  · rw [Re.facts_some h, Re.facts_some ea, Re.facts_some eb]
    simp only [Re.cat2, Re.learn, Re.learns, Re.learn_nogroup a _ hga]
    rfl
  · rw [Re.facts_some ealt, Re.facts_some ea, Re.facts_some eb]
    simp only [Re.alt2, Re.learn, Re.learns, Re.learn_nogroup a _ hga]
    rfl
end Go.Proofs.Ytnjcfggadeakpaa
