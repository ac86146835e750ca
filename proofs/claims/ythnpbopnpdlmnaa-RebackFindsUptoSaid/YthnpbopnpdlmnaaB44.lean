/- The laws of layer 9: their helpers over trees (count, Small, anchored, closing), each as a plain function. -/
import Derived.Test.YthnpbopnpdlmnaaB43
import Derived.Test.YthnpbopnpdlmnaaB26
import Derived.Test.YthnpbopnpdlmnaaB28
import Derived.Test.YthnpbopnpdlmnaaB05
namespace Go.Proofs.Ythnpbopnpdlmnaa
open Go.RowKit
attribute [local go_sem] gives givesUpon

mutual
/-- What count hands out. -/
def Re.cnt : Re → Nat → Nat → Nat
  | .mk p xs, n, lv => if lv = 0 ∨ 6 < xs.length ∨ 4 < p.lo ∨ 4 < p.hi then n + 1 else Re.cnts xs n 1 (lv - 1)
def Re.cnts : List Re → Nat → Nat → Nat → Nat
  | [], _, k, _ => k
  | x :: xs, n, k, lv => if k ≤ n then Re.cnts xs n (k + x.cnt (n - k) lv) lv else k
end
mutual
theorem Re.cnt_le : ∀ (t : Re) (n lv : Nat), t.cnt n lv ≤ n + 1 ∧ (t.cnt n lv ≤ n → t.size = t.cnt n lv)
  | .mk p xs, n, lv => by
    rw [Re.cnt]
    split
    · exact ⟨Nat.le_refl _, fun h => absurd h (by omega)⟩
    · obtain ⟨h1, h2⟩ := Re.cnts_le xs n 1 (lv - 1) (by omega)
      exact ⟨h1, fun h => by rw [Re.size_mk]; have := h2 h; omega⟩
theorem Re.cnts_le : ∀ (xs : List Re) (n k lv : Nat), k ≤ n + 1 → Re.cnts xs n k lv ≤ n + 1 ∧ (Re.cnts xs n k lv ≤ n → k + Re.sizes xs = Re.cnts xs n k lv)
  | [], n, k, lv, hk => by rw [Re.cnts]; exact ⟨hk, fun _ => rfl⟩
  | x :: xs, n, k, lv, hk => by
    rw [Re.cnts]
    split
    · have h1 := Re.cnt_le x (n - k) lv
      have h2 := Re.cnts_le xs n (k + x.cnt (n - k) lv) lv (by omega)
      refine ⟨h2.1, fun h => ?_⟩
      have h3 := h2.2 h
      have h4 : Re.sizes (x :: xs) = x.size + Re.sizes xs := rfl
      have h5 := h1.2 (by omega)
      omega
    · rename_i h
      exact ⟨hk, fun h' => absurd h' h⟩
end
/-- What Small hands out. -/
def Re.small (t : Re) (n : Nat) : Bool := decide (t.cnt n 8 ≤ n)
theorem Re.small_size {t : Re} {n : Nat} (h : t.small n = true) : t.size ≤ n := by
  unfold Re.small at h
  rw [decide_eq_true_eq] at h
  have := (Re.cnt_le t n 8).2 h
  omega
set_option maxRecDepth 100000 in
set_option maxHeartbeats 8000000 in
theorem cnt9_any (wb : World) (t : Re) : ∀ (w : World) (cs : List Value) (n lv : Nat), t.In wb cs → Below wb.heap.size wb w → n ≤ 1000 → lv ≤ 8 →
    Calls Try.prog 24 #[.agg cs.toArray, .int .i64 n, .int .i64 lv] w fun e w' => e = .returned (.int .i64 (t.cnt n lv : Nat)) ∧ Below w.heap.size w w' := by
  induction t using Re.ind with
  | h p xs ih =>
    intro w cs n lv hIn hbw hn hlv
    rw [Re.In] at hIn
    obtain ⟨ad, cap, rfl, hwf, hlc, hcm, hnil, hall⟩ := hIn
    have HIH := hid ih
    have HAL := hid hall
    have HBW := hid hbw
    clear ih hall hwf hbw
    simp only [Pay.cells]
    have hr0 := (Row.new (w := w) (cs := [.int .i64 p.op, .int .u64 p.set.a, .int .u64 p.set.b, .int .u64 p.set.c, .int .u64 p.set.d, .int .i64 p.lo, .int .i64 p.hi, .int .i64 p.gr, .slice ad xs.length cap]) (T := 28) rfl)
    have HR0 := hid hr0
    have q0 := hr0.c9
    have HAL0 := hid ((Below.refl w.heap.size w).alloc (Nat.le_refl _) (.cells #[.int .i64 p.op, .int .u64 p.set.a, .int .u64 p.set.b, .int .u64 p.set.c, .int .u64 p.set.d, .int .i64 p.lo, .int .i64 p.hi, .int .i64 p.gr, .slice ad xs.length cap] 28))
    clear hr0
    obtain ⟨res, hres⟩ : ∃ res, res = (Re.mk p xs).cnt n lv := ⟨_, rfl⟩
    rw [← hres]
    have HRES := hid hres
    rw [Re.cnt] at hres
    by_cases hbad : lv = 0 ∨ 6 < xs.length ∨ 4 < p.lo ∨ 4 < p.hi
    · rw [if_pos hbad] at hres
      subst hres
      by_cases h1 : lv = 0
      · subst h1
        go_enter Try.func24, Try.ntmps24
        go_wp2_with fail
        go_ret
        exact ⟨by simp, HAL0.out⟩
      · have d1 : ((lv : Int) == 0) = false := by simp; omega
        by_cases h2 : 6 < xs.length
        · have h2I : (6 : Int) < xs.length := by omega
          clear h1
          go_enter Try.func24, Try.ntmps24
          go_wp2_with fail
          go_ret
          exact ⟨by simp, HAL0.out⟩
        · have h2I : ¬ (6 : Int) < xs.length := by omega
          by_cases h3 : 4 < p.lo
          · clear h1
            go_enter Try.func24, Try.ntmps24
            go_wp2_with fail
            go_ret
            exact ⟨by simp, HAL0.out⟩
          · have h4 : 4 < p.hi := by omega
            clear h1
            go_enter Try.func24, Try.ntmps24
            go_wp2_with fail
            go_ret
            exact ⟨by simp, HAL0.out⟩
    · rw [if_neg hbad] at hres
      have HRS := hid hres
      clear hres HRES
      have d1 : ((lv : Int) == 0) = false := by simp; omega
      have h2 : ¬ 6 < xs.length := by omega
      have h2I : ¬ (6 : Int) < xs.length := by omega
      have h3 : ¬ 4 < p.lo := by omega
      have h4 : ¬ 4 < p.hi := by omega
      have hl0 : 0 < lv := by omega
      clear hbad
      go_enter Try.func24, Try.ntmps24
      go_wp2_with fail
      go_loopw [7, 8] (fun v i wr => ∃ (k j : Nat), k ≤ n + 1 ∧ j ≤ xs.length ∧ v = .int .i64 k ∧ i = .int .i64 j ∧ Hid ((Row wr w.heap.size [.int .i64 p.op, .int .u64 p.set.a, .int .u64 p.set.b, .int .u64 p.set.c, .int .u64 p.set.d, .int .i64 p.lo, .int .i64 p.hi, .int .i64 p.gr, .slice ad xs.length cap] 28 ∧ Below w.heap.size w wr) ∧ Re.cnts xs n 1 (lv - 1) = Re.cnts (xs.drop j) n k (lv - 1))) (fun _ i _ => xs.length - (intOf i).toNat)
      case atStart => exact ⟨1, 0, by omega, Nat.zero_le _, rfl, rfl, ⟨HR0.out, HAL0.out⟩, rfl⟩
      case round =>
        obtain ⟨k, j, hk, hj, rfl, rfl, HX0⟩ := hrel
        have HX := hid HX0.out.1
        have HKK := hid HX0.out.2
        clear HX0
        have q1 := HX.out.1.c9
        clear q0
        by_cases hlt : j < xs.length
        · have hdrop := List.drop_eq_getElem_cons hlt
          by_cases hkn : k ≤ n
          · have HBL : Hid (Below wb.heap.size wb wr) := HBW.out.trans (HX.out.2.mono HBW.out.size)
            obtain ⟨b, o, p', ad', n', cap', rfl, HC, HI0, hbb⟩ := HAL.out.kid HBL.out j hlt
            have HKN : Hid (Re.cnts xs n 1 (lv - 1) = Re.cnts (xs.drop (j + 1)) n (k + xs[j].cnt (n - k) (lv - 1)) (lv - 1) ∧ xs[j].cnt (n - k) (lv - 1) ≤ n - k + 1) := ⟨by have := HKK.out; rw [hdrop, Re.cnts, if_pos hkn] at this; exact this, (Re.cnt_le _ _ _).1⟩
            have hjI : (j : Int) < xs.length := by omega
            have hkI : (k : Int) ≤ n := by omega
            clear hdrop
            go_wp2_with (first | (with_reducible (refine wpList_load_agg rfl 28 _ rfl b (o + (j * 9)) rfl _ _ HC.out Try.underlying28 rfl (size_re9 _ _ _ _ _ _ _ _ _) ?_)))
            have H1 := HIH.out xs[j] (List.getElem_mem _) wr _ (n - k) (lv - 1) HI0.out HBL.out (by omega) (by omega)
            obtain ⟨r, hr⟩ : ∃ r, r = xs[j].cnt (n - k) (lv - 1) := ⟨_, rfl⟩
            rw [← hr] at H1 HKN
            clear hr
            rw [show ((n - k : Nat) : Int) = (n : Int) - k by omega, show ((lv - 1 : Nat) : Int) = (lv : Int) - 1 by omega] at H1
            refine H1.mono ?_
            clear H1
            rintro e w2 ⟨rfl, hb2⟩
            have hr9 : r ≤ n - k + 1 := HKN.out.2
            have HX2 := hid (⟨HX.out.1.below hb2 HX.out.1.lt, HX.out.2.trans (hb2.mono HX.out.2.size)⟩ : Row w2 _ _ _ ∧ Below _ _ w2)
            clear hb2
            go_wp2_with fail
            refine ⟨⟨k + r, j + 1, by omega, by omega, by go_num, by go_num, HX2.out, HKN.out.1⟩, ?_⟩
            simp [intOf]; omega
          · have hkI : ¬ (k : Int) ≤ n := by omega
            have hjI : (j : Int) < xs.length := by omega
            have HE : Hid (k = res) := by have := HKK.out; rw [hdrop, Re.cnts, if_neg hkn] at this; exact (HRS.out.trans this).symm
            clear hdrop
            go_wp2_with fail
            go_ret
            exact ⟨by rw [HE.out]; rfl, HX.out.2⟩
        · have hjI : ¬ (j : Int) < xs.length := by omega
          have HE : Hid (k = res) := by have := HKK.out; rw [List.drop_eq_nil_of_le (by omega), Re.cnts] at this; exact (HRS.out.trans this).symm
          go_wp2_with fail
          go_ret
          exact ⟨by rw [HE.out]; rfl, HX.out.2⟩
set_option maxHeartbeats 2000000 in
theorem SmallB_any (w : World) (t : Re) (cs : List Value) (n : Nat) (hin : t.In w cs) (hn : n ≤ 1000) :
    Calls Try.prog 6 #[.agg cs.toArray, .int .i64 n] w fun e w' => e = .returned (.bool (t.small n)) ∧ Below w.heap.size w w' := by
  obtain ⟨p, ad, m, c, rfl⟩ := Re.cells_shape hin
  have HI := hid hin
  have HB := hid ((Below.refl w.heap.size w).alloc (Nat.le_refl _) (.cells #[.int .i64 p.op, .int .u64 p.set.a, .int .u64 p.set.b, .int .u64 p.set.c, .int .u64 p.set.d, .int .i64 p.lo, .int .i64 p.hi, .int .i64 p.gr, .slice ad m c] 28))
  clear hin
  have hct := fun x hx => cnt9_any w t x #[.int .i64 p.op, .int .u64 p.set.a, .int .u64 p.set.b, .int .u64 p.set.c, .int .u64 p.set.d, .int .i64 p.lo, .int .i64 p.hi, .int .i64 p.gr, .slice ad m c].toList n 8 HI.out hx hn (by omega)
  obtain ⟨r, hr⟩ : ∃ r, r = t.cnt n 8 := ⟨_, rfl⟩
  have hsm : t.small n = decide (r ≤ n) := by unfold Re.small; rw [hr]
  rw [← hr] at hct
  rw [hsm]
  have HCT := hid hct
  clear hr hsm hct
  go_enter Try.func6, Try.ntmps6
  go_wp2_with fail
  refine (HCT.out _ HB.out).mono ?_
  rintro e w1 ⟨rfl, hb⟩
  have HB1 := hid (HB.out.trans (hb.mono (by simp)))
  clear hb
  by_cases h : (r : Int) ≤ n
  · have h2 : r ≤ n := by omega
    go_wp2_with fail
    go_ret
    exact ⟨by simp; omega, HB1.out⟩
  · have h2 : ¬ r ≤ n := by omega
    go_wp2_with fail
    go_ret
    exact ⟨by simp; omega, HB1.out⟩
end Go.Proofs.Ythnpbopnpdlmnaa

/- How many spans are handed out. -/
namespace Go.Proofs.Ythnpbopnpdlmnaa
open Go.RowKit

theorem parsesR_sp {t : Re} {s : ByteArray} {at_ : Int} {lines : Bool} : ∀ q, q ∈ (parsesR t s at_ lines).1 → q.2.length ≤ 9 := fun q hq => by
  have hok := (parsesR_ok (t := t) (s := s) (at_ := at_) (lines := lines))
  have h1 := (hok.1 q hq).2.2.1
  have h2 := (Re.ok_err (chk_zero (hok.2 (fun e => by rw [e] at hq; cases hq)).1).1).2.1
  omega
theorem atR_len {t : Re} {s : ByteArray} {at_ : Int} {lines : Bool} : (atR (parsesR t s at_ lines) at_).1.length ≤ 20 := by
  have h := parsesR_sp (t := t) (s := s) (at_ := at_) (lines := lines)
  unfold atR
  cases hl : (parsesR t s at_ lines).1 with
  | nil => simp
  | cons q l =>
    have := h q (by rw [hl]; simp)
    simp; omega
theorem leftR_len {t : Re} {s : ByteArray} {lines : Bool} : ∀ d i : Nat, (leftR t s lines d i).1.length ≤ 20
  | 0, i => by simp [leftR]
  | d + 1, i => by
    rw [leftR]
    split
    · exact atR_len
    · exact leftR_len d (i + 1)
theorem leftmostR_len {t : Re} {s : ByteArray} {at_ : Int} {lines : Bool} : (leftmostR t s at_ lines).1.length ≤ 20 := by
  unfold leftmostR
  split
  · simp
  · exact leftR_len _ _
end Go.Proofs.Ythnpbopnpdlmnaa

/- Reback's laws: few, with the size of the tree; whether two matches are the same. -/
namespace Go.Proofs.Ythnpbopnpdlmnaa
open Go.RowKit
attribute [local go_sem] gives givesUpon

def Few14Post (t : Re) (s : ByteArray) (budget : Int) (w : World) (e : Ending) (w' : World) : Prop := ∃ b, e = .returned (.bool b) ∧ (b = true → t.size ≤ 14 ∧ s.size ≤ 12 ∧ budget ≤ 20000) ∧ Below w.heap.size w w'
set_option maxHeartbeats 2000000 in
theorem few14_any (w : World) (t : Re) (cs : List Value) (s : ByteArray) (at_ budget : Int) (lines : Bool) (hin : t.In w cs) (hs : (s.size : Int) ≤ 9223372036854775807) :
    Calls Try.prog 15 #[.agg cs.toArray, .agg #[.string s, .int .i64 at_, .bool lines, .int .i64 budget]] w (Few14Post t s budget w) := by
  obtain ⟨p, ad, m, c, rfl⟩ := Re.cells_shape hin
  have HI := hid hin
  have HB := hid (((Below.refl w.heap.size w).alloc (Nat.le_refl _) (.cells #[.int .i64 p.op, .int .u64 p.set.a, .int .u64 p.set.b, .int .u64 p.set.c, .int .u64 p.set.d, .int .i64 p.lo, .int .i64 p.hi, .int .i64 p.gr, .slice ad m c] 28)).alloc (by simp) (.cells #[.string s, .int .i64 at_, .bool lines, .int .i64 budget] 50))
  have R1 := (Row.new (w := w.alloc (.cells #[.int .i64 p.op, .int .u64 p.set.a, .int .u64 p.set.b, .int .u64 p.set.c, .int .u64 p.set.d, .int .i64 p.lo, .int .i64 p.hi, .int .i64 p.gr, .slice ad m c] 28)) (B := w.heap.size + 1) (cs := [.string s, .int .i64 at_, .bool lines, .int .i64 budget]) (T := 50) (by simp))
  have HR1 := hid R1
  have HSM := hid (SmallB_any _ t _ 14 (HI.out.below HB.out) (by omega))
  obtain ⟨sm, hsm⟩ : ∃ b, b = t.small 14 := ⟨_, rfl⟩
  rw [← hsm] at HSM
  have HSZ : Hid (sm = true → t.size ≤ 14) := fun h => Re.small_size (by rw [← hsm]; exact h)
  clear hin R1 hsm
  go_enter Try.func15, Try.ntmps15
  go_wp2_with fail
  refine HSM.out.mono ?_
  rintro e w1 ⟨rfl, hb⟩
  have HB1 := hid (HB.out.trans (hb.mono (by simp; omega)))
  have q := (HR1.out.below hb (by simp)).c4
  clear hb HSM
  cases sm with
  | false =>
    go_wp2_with fail
    go_ret
    exact ⟨false, rfl, fun h => (by cases h), HB1.out⟩
  | true =>
    by_cases h1 : s.size ≤ 12
    · have h1I : (s.size : Int) ≤ 12 := by omega
      go_wp2_with fail
      go_ret
      exact ⟨_, rfl, fun h => ⟨HSZ.out trivial, h1, by simpa using h⟩, HB1.out⟩
    · have h1I : ¬ (s.size : Int) ≤ 12 := by omega
      go_wp2_with fail
      go_ret
      exact ⟨false, rfl, fun h => (by cases h), HB1.out⟩
set_option maxHeartbeats 2000000 in
theorem sameQB_any (w : World) (a a' : Option Addr) (c c' : Nat) (l l' : Spans) (h : SpQ w (.slice a l.length c) l) (h' : SpQ w (.slice a' l'.length c') l') (hl : l.length ≤ 1000) (hl' : l'.length ≤ 1000) :
    Calls Try.prog 17 #[.agg #[.slice a l.length c], .agg #[.slice a' l'.length c']] w fun e w' => e = .returned (.bool (decide (l = l'))) ∧ Below w.heap.size w w' := by
  have HB := hid (((Below.refl w.heap.size w).alloc (Nat.le_refl _) (.cells #[.slice a l.length c] 43)).alloc (by simp) (.cells #[.slice a' l'.length c'] 43))
  have HS := hid (SameSpansQ_any _ _ _ l l' (h.below HB.out) (h'.below HB.out) hl hl')
  clear h h'
  go_enter Try.func17, Try.ntmps17
  go_wp2_with fail
  refine HS.out.mono ?_
  rintro e w1 ⟨rfl, hb⟩
  have HB1 := hid (HB.out.trans (hb.mono (by simp; omega)))
  clear hb HS
  go_wp2_with fail
  go_ret
  exact ⟨rfl, HB1.out⟩
end Go.Proofs.Ythnpbopnpdlmnaa

/- The order of parses, plainly: they are sorted by their ends, no two are equal, and the spans of groups lie within them. -/
namespace Go.Proofs.Ythnpbopnpdlmnaa
open Go.RowKit

/-- Sorted, and no two equal. -/
def Neat (l : List Parse) : Prop := l.Pairwise (fun x y => y.1 ≤ x.1) ∧ l.Nodup
theorem Neat.nil : Neat [] := ⟨by simp, by simp⟩
theorem Neat.one (q : Parse) : Neat [q] := ⟨by simp, by simp⟩
theorem fin_neat {L : Nat} {l m : List Parse} (h : fin L l = some m) : Neat m := by
  unfold fin at h
  split at h
  · cases h
  · have := Option.some.inj h; subst this
    refine ⟨sortP_desc _ _, ?_⟩
    rw [← nub_sortP]
    exact nub_nodup _
theorem parses_neat {s : List UInt8} {lines : Bool} : ∀ {t : Re} {i : Nat} {sp : Spans} {l : List Parse}, parses s lines t i sp = some l → Neat l
  | .mk p xs, i, sp, l, h => by
    rw [parses] at h
    split at h
    · have := Option.some.inj h; subst this; exact .one _
    split at h
    · have := Option.some.inj h; subst this
      split
      · exact .one _
      · exact .nil
    split at h
    · obtain ⟨m, h1, h2⟩ := Option.bind_eq_some_iff.1 h; exact fin_neat h2
    split at h
    · obtain ⟨m, h1, h2⟩ := Option.bind_eq_some_iff.1 h; exact fin_neat h2
    split at h
    · obtain ⟨m, h1, h2⟩ := Option.bind_eq_some_iff.1 h; exact fin_neat h2
    split at h
    · obtain ⟨m, h1, h2⟩ := Option.bind_eq_some_iff.1 h; exact fin_neat h2
    split at h
    · have := Option.some.inj h; subst this
      split
      · exact .one _
      · exact .nil
    split at h
    · have := Option.some.inj h; subst this
      split
      · exact .one _
      · exact .nil
    · have := Option.some.inj h; subst this
      split
      · exact .one _
      · exact .nil
/-- A parse from i on, its spans between i0 and its end. -/
def PIn (i0 i : Nat) (q : Parse) : Prop := i ≤ q.1 ∧ ∀ x, x ∈ q.2 → x = (-1, -1) ∨ (i0 : Int) ≤ x.1 ∧ x.1 ≤ x.2 ∧ x.2 ≤ q.1
theorem PIn.put {i0 i j k : Nat} {sp : Spans} (g : Nat) (h : PIn i0 i (k, sp)) (h1 : i0 ≤ j) (h2 : j ≤ k) : PIn i0 i (k, sp.set g ((j : Int), (k : Int))) := by
  refine ⟨h.1, fun x hx => ?_⟩
  rcases List.mem_or_eq_of_mem_set hx with hx | rfl
  · exact h.2 x hx
  · exact .inr ⟨by simpa using h1, by simpa using h2, by simp⟩
theorem PIn.unset {i0 i j : Nat} (gs : List Nat) : ∀ {sp : Spans}, PIn i0 i (j, sp) → PIn i0 i (j, unset sp gs) := by
  induction gs with
  | nil => intro sp h; exact h
  | cons g gs ih =>
    intro sp h
    refine ih (sp := sp.set (g - 1) (-1, -1)) ⟨h.1, fun x hx => ?_⟩
    rcases List.mem_or_eq_of_mem_set hx with hx | rfl
    · exact h.2 x hx
    · exact .inl rfl
theorem PIn.on {i0 i j : Nat} {q : Parse} (h : PIn i0 j q) (hij : i ≤ j) : PIn i0 i q := ⟨Nat.le_trans hij h.1, h.2⟩
theorem PIn.at {i0 i : Nat} {q : Parse} (h : PIn i0 i q) : PIn i0 q.1 q := ⟨Nat.le_refl _, h.2⟩
theorem PIn.grow {i0 i k : Nat} {sp : Spans} (h : PIn i0 i (i, sp)) (hk : i ≤ k) : PIn i0 i (k, sp) :=
  ⟨hk, fun x hx => (h.2 x hx).imp id fun h => ⟨h.1, h.2.1, by have := h.2.2; dsimp only at *; omega⟩⟩
section
variable (s : List UInt8) (lines : Bool) (N i0 : Nat)
end
end Go.Proofs.Ythnpbopnpdlmnaa

/- What a repetition visits, plainly: all that can be reached. -/
namespace Go.Proofs.Ythnpbopnpdlmnaa
open Go.RowKit

/-- The number of repetitions as the walk keeps it. -/
def clampC (p : Pay) (c : Nat) : Nat := if p.hi < 0 ∧ p.lo < (c : Int) then p.lo.toNat else c
section
variable (p : Pay) (gs : List Nat) (child : Nat → Spans → Option (List Parse))
/-- One repetition more. -/
def Nxt (v u : Sit) : Prop := (p.hi < 0 ∨ (v.1 : Int) < p.hi) ∧ ∃ l, child v.2.1 (unset v.2.2 gs) = some l ∧ ∃ q, q ∈ l ∧ ¬ (q.1 = v.2.1 ∧ p.lo ≤ (v.1 : Int)) ∧ u = (clampC p (v.1 + 1), q)
inductive Rch : Sit → Sit → Prop
  | refl (v : Sit) : Rch v v
  | step {v u z : Sit} : Nxt p gs child v u → Rch u z → Rch v z
theorem Rch.trans {v u z : Sit} (h : Rch p gs child v u) (k : Rch p gs child u z) : Rch p gs child v z := by
  induction h with
  | refl _ => exact k
  | step h _ ih => exact .step h (ih k)
/-- What a visit does. -/
structure VSpec (x : Sit) (st st' : List Sit × List Parse) : Prop where
  mono : ∀ v, v ∈ st.1 → v ∈ st'.1
  self : (clampC p x.1, x.2) ∈ st'.1
  closed : ∀ v, v ∈ st'.1 → v ∈ st.1 ∨ ∀ u, Nxt p gs child v u → u ∈ st'.1
  reach : ∀ v, v ∈ st'.1 → v ∈ st.1 ∨ Rch p gs child (clampC p x.1, x.2) v
  out : ∀ q, q ∈ st'.2 ↔ q ∈ st.2 ∨ ∃ c : Nat, (c, q) ∈ st'.1 ∧ (c, q) ∉ st.1 ∧ p.lo ≤ (c : Int)
  kid : ∀ v, v ∈ st'.1 → v ∈ st.1 ∨ ((p.hi < 0 ∨ (v.1 : Int) < p.hi) → ∃ l, child v.2.1 (unset v.2.2 gs) = some l)
theorem VSpec.done {x : Sit} {st : List Sit × List Parse} (h : (clampC p x.1, x.2) ∈ st.1) : VSpec p gs child x st st :=
  ⟨fun _ h => h, h, fun _ h => .inl h, fun _ h => .inl h, fun _ => ⟨.inl, fun h => h.elim id fun ⟨_, h1, h2, _⟩ => absurd h1 h2⟩, fun _ h => .inl h⟩
/-- What is reached from a situation of a closed set lies in it. -/
theorem Rch.stays {S : List Sit} (hS : ∀ v, v ∈ S → ∀ u, Nxt p gs child v u → u ∈ S) {v u : Sit} (h : Rch p gs child v u) (hv : v ∈ S) : u ∈ S := by
  induction h with
  | refl _ => exact hv
  | step h _ ih => exact ih (hS _ hv _ h)
end
end Go.Proofs.Ythnpbopnpdlmnaa

/- Matching further on, plainly: without anchors at the beginning, the parses behind other bytes are the parses, moved. -/
namespace Go.Proofs.Ythnpbopnpdlmnaa
open Go.RowKit

theorem filter_end {L : Nat} {l : List Parse} (hl : ∀ q, q ∈ l → q.1 ≤ L) (e : Nat) : (sortP L l).filter (fun q => q.1 == e) = l.filter fun q => q.1 == e := by
  suffices h : ∀ es : List Nat, es.Nodup → (∀ q, q ∈ l → q.1 ∈ es) → (es.flatMap fun k => l.filter fun q => q.1 == k).filter (fun q => q.1 == e) = l.filter fun q => q.1 == e by
    exact h _ (List.pairwise_reverse.2 (List.nodup_range.imp fun h e => h e.symm)) (fun q hq => by have := hl q hq; simp; omega)
  have hk : ∀ k, (l.filter fun q => q.1 == k).filter (fun q => q.1 == e) = if k = e then l.filter (fun q => q.1 == e) else [] := by
    intro k
    split
    · rename_i h; subst h; rw [List.filter_filter]; exact List.filter_congr fun q _ => by simp
    · rename_i h
      rw [List.filter_eq_nil_iff]
      intro q hq
      have h1 := (List.mem_filter.1 hq).2
      simp at h1
      simp
      omega
  intro es hnd hmem
  have hes : ∀ es : List Nat, es.Nodup → (es.flatMap fun k => l.filter fun q => q.1 == k).filter (fun q => q.1 == e) = if e ∈ es then l.filter (fun q => q.1 == e) else [] := by
    intro es
    induction es with
    | nil => intro _; simp
    | cons k es ih =>
      intro hn
      rw [List.nodup_cons] at hn
      rw [List.flatMap_cons, List.filter_append, hk, ih hn.2]
      by_cases h : k = e
      · subst h
        rw [if_pos rfl, if_neg hn.1, if_pos (by simp)]; simp
      · rw [if_neg h]
        by_cases h2 : e ∈ es
        · rw [if_pos h2, if_pos (by simp [h2])]; rfl
        · rw [if_neg h2, if_neg (by simp [h2]; exact fun h3 => h h3.symm)]; rfl
  rw [hes es hnd]
  split
  · rfl
  · rename_i h
    symm
    rw [List.filter_eq_nil_iff]
    intro q hq hqe
    simp at hqe
    exact h (by rw [← hqe]; exact hmem q hq)
section
variable (p : Pay) (gs : List Nat) (child child' : Nat → Spans → Option (List Parse)) (n : Nat) (G : Parse → Prop)
theorem visit_succ (f : Nat) (x : Sit) (st : List Sit × List Parse) : visit p gs child (f + 1) x st = if (clampC p x.1, x.2) ∈ st.1 then some st else if most < st.1.length + 1 then none else
    (if p.hi < 0 ∨ (clampC p x.1 : Int) < p.hi then (child x.2.1 (unset x.2.2 gs)).bind fun l => l.foldlM (fun st q => if q.1 = x.2.1 ∧ p.lo ≤ (clampC p x.1 : Int) then some st else visit p gs child f (clampC p x.1 + 1, q.1, q.2) st) (st.1 ++ [(clampC p x.1, x.2)], st.2) else some (st.1 ++ [(clampC p x.1, x.2)], st.2)).bind fun st => some (st.1, if p.lo ≤ (clampC p x.1 : Int) then st.2 ++ [x.2] else st.2) := rfl
end
section
variable (b s : List UInt8) (N : Nat)
end
end Go.Proofs.Ythnpbopnpdlmnaa
