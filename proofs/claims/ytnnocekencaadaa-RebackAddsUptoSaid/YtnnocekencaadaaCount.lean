/- The numbers of nodes of a tree: what each call that counts them returns. -/
import Derived.Test.YtnnocekencaadaaProg
import Derived.Test.YtnnocekencaadaaRe
namespace Go.Proofs.Ytnnocekencaadaa
open Go.RowKit

mutual
/-- The number of nodes whose operator fits. -/
def Re.count (q : Int → Bool) : Re → Nat
  | .mk p xs => Re.counts q xs + if q p.op then 1 else 0
def Re.counts (q : Int → Bool) : List Re → Nat
  | [] => 0
  | t :: ts => t.count q + Re.counts q ts
end
def Re.size (t : Re) : Nat := t.count fun _ => true
def Re.sizes (l : List Re) : Nat := Re.counts (fun _ => true) l
def Re.groups (t : Re) : Nat := t.count (· == 6)
def Re.backs (t : Re) : Nat := t.count (· == 9)
theorem Re.size_mk (p : Pay) (xs : List Re) : (Re.mk p xs).size = Re.sizes xs + 1 := by simp [Re.size, Re.count, Re.sizes]
theorem Re.counts_take (q : Int → Bool) : ∀ (xs : List Re) (i : Nat) (a : Re), xs[i]? = some a → Re.counts q (xs.take (i + 1)) = Re.counts q (xs.take i) + a.count q
  | t :: ts, 0, a, h => by simp at h; subst h; simp [Re.counts]
  | t :: ts, i + 1, a, h => by
    have := Re.counts_take q ts i a (by simpa using h)
    simp [Re.counts, this]; omega
theorem Re.counts_take_le (q : Int → Bool) : ∀ (xs : List Re) (i : Nat), Re.counts q (xs.take i) ≤ Re.counts q xs
  | [], i => by simp
  | t :: ts, 0 => by simp [Re.counts]
  | t :: ts, i + 1 => by have := Re.counts_take_le q ts i; simp [Re.counts]; omega
mutual
theorem Re.count_le (q : Int → Bool) : ∀ t : Re, t.count q ≤ t.size
  | .mk p xs => by have := Re.counts_le q xs; rw [Re.size_mk, Re.count]; split <;> omega
theorem Re.counts_le (q : Int → Bool) : ∀ xs : List Re, Re.counts q xs ≤ Re.sizes xs
  | [] => by simp [Re.counts, Re.sizes]
  | t :: ts => by have h1 := Re.count_le q t; have h2 := Re.counts_le q ts; simp only [Re.sizes, Re.counts, Re.size] at *; omega
end
theorem Re.sizes_len : ∀ (xs : List Re), xs.length ≤ Re.sizes xs
  | [] => by simp
  | .mk p l :: ts => by have := Re.sizes_len ts; simp [Re.sizes, Re.counts, Re.count] at *; omega
theorem Re.size_get {xs : List Re} {i : Nat} {a : Re} (h : xs[i]? = some a) : a.size ≤ Re.sizes xs := by
  have h1 := Re.counts_take (fun _ => true) xs i a h
  have h2 := Re.counts_take_le (fun _ => true) xs (i + 1)
  simp only [Re.sizes, Re.size] at *; omega
theorem size_re : (Try.prog.info? 28).map (·.size) = some 9 := by kernel_rfl

theorem size_re9 (a b c d e f g h i : Value) : (Try.prog.info? 28).map (·.size) = some [a, b, c, d, e, f, g, h, i].length := size_re

/-- A child, wherever the world has gone on. -/
theorem Re.AllIn.kid {wb wr : World} {xs : List Re} {ad : Option Addr} (h : Re.AllIn wb xs ad 0) (hb : Below wb.heap.size wb wr) (k : Nat) (hk : k < xs.length) :
    ∃ (b o : Nat) (p : Pay) (ad' : Option Addr) (n' cap' : Nat), ad = some ⟨b, o, none⟩ ∧ Hid (CellsAt wr b (o + k * 9) [.int .i64 p.op, .int .u64 p.set.a, .int .u64 p.set.b, .int .u64 p.set.c, .int .u64 p.set.d, .int .i64 p.lo, .int .i64 p.hi, .int .i64 p.gr, .slice ad' n' cap']) ∧
      Hid (Re.In wb xs[k] [.int .i64 p.op, .int .u64 p.set.a, .int .u64 p.set.b, .int .u64 p.set.c, .int .u64 p.set.d, .int .i64 p.lo, .int .i64 p.hi, .int .i64 p.gr, .slice ad' n' cap']) ∧ b < wb.heap.size := by
  obtain ⟨b, o, cs, h1, h2, h3⟩ := h.get k xs[k] (by simp [hk])
  have hn := h3.nine
  have hb2 : b < wb.heap.size := h2.block (by rintro rfl; simp at hn)
  cases hx : xs[k] with
  | mk p ys =>
    rw [hx, Re.In] at h3
    obtain ⟨ad', cap', rfl, h3⟩ := h3
    refine ⟨b, o, p, ad', ys.length, cap', h1, ?_, ?_, hb2⟩
    · have := h2.below hb
      show CellsAt _ _ _ _
      simpa [Pay.cells] using this
    · show Re.In _ _ _
      rw [Re.In]
      exact ⟨ad', cap', rfl, h3⟩

/-- Does an operator count? -/
def hits (op o : Int) : Bool := op == 0 || o == op
def tick (op o : Int) : Nat := if hits op o then 1 else 0

set_option maxHeartbeats 400000 in
theorem count1_any (p : Pay) (sl : Value) (op n : Int) (Bo Bn : Nat) (w : World) (ho : Row w Bo [.int .i64 op] 3) (hn : Row w Bn [.int .i64 n] 3) (h0 : 0 ≤ n) (h1 : n ≤ 1048576) :
    Calls Try.prog 63 #[.agg #[.int .i64 p.op, .int .u64 p.set.a, .int .u64 p.set.b, .int .u64 p.set.c, .int .u64 p.set.d, .int .i64 p.lo, .int .i64 p.hi, .int .i64 p.gr, sl], .pointer (some ⟨Bo, 0, none⟩), .pointer (some ⟨Bn, 0, none⟩)] w fun e w' =>
      e = .returned (.tuple #[]) ∧ But [Bn] w w' ∧ Row w' Bn [.int .i64 (n + (tick op p.op : Nat))] 3 := by
  have o1 := ho.c1
  have o2 := hn.c1
  have o3 := ho.lt
  have o4 := hn.lt
  have HN := hid hn
  clear ho hn
  by_cases c0 : op = 0
  · obtain rfl := c0
    go_enter Try.func63, Try.ntmps63
    go_wp2
    go_end0
    exact ⟨rfl, ((But.refl _ _).setCell (by simp) _).alloc _, by simpa [tick, hits] using (HN.out.set 0 (.int .i64 (n + 1))).alloc _⟩
  · have d0 : (op == 0) = false := by simpa using c0
    have H0 := hid d0
    by_cases c1 : p.op = op
    · have d1 : (p.op == op) = true := by simpa using c1
      have H1 := hid d1
      clear c1 c0
      go_enter Try.func63, Try.ntmps63
      go_wp2
      go_end0
      exact ⟨rfl, ((But.refl _ _).setCell (by simp) _).alloc _, by simpa [tick, hits, H0.out, H1.out] using (HN.out.set 0 (.int .i64 (n + 1))).alloc _⟩
    · have d1 : (p.op == op) = false := by simpa using c1
      have H1 := hid d1
      clear c1 c0
      go_enter Try.func63, Try.ntmps63
      go_wp2
      go_end0
      exact ⟨rfl, (But.refl _ _).alloc _, by simpa [tick, hits, H0.out, H1.out] using HN.out.alloc _⟩

set_option maxHeartbeats 1000000 in
theorem walk_any (op : Int) (Bo Bn : Nat) (wb : World) (_hBo : wb.heap.size ≤ Bo) (hBn : wb.heap.size ≤ Bn) (hne : Bo ≠ Bn) (t : Re) : ∀ (w : World) (cs : List Value) (n : Nat), t.In wb cs → Below wb.heap.size wb w → Row w Bo [.int .i64 op] 3 → Row w Bn [.int .i64 n] 3 → n + t.size ≤ 1048576 →
    Calls Try.prog 62 #[.agg cs.toArray, .func (.func 63) #[] #[.pointer (some ⟨Bo, 0, none⟩), .pointer (some ⟨Bn, 0, none⟩)]] w fun e w' =>
      e = .returned (.tuple #[]) ∧ But [Bn] w w' ∧ Row w' Bn [.int .i64 (n + t.count (hits op) : Nat)] 3 := by
  induction t using Re.ind with
  | h p xs ih =>
    intro w cs n hIn hbw ho hn hsz
    rw [Re.In] at hIn
    obtain ⟨ad, cap, rfl, hwf, hlc, hcm, hnil, hall⟩ := hIn
    rw [Re.size_mk] at hsz
    have hlen := Re.sizes_len xs
    have hsw := hbw.size
    have HBW := hid hbw
    have HO := hid ho
    have HN := hid hn
    have HIH := hid ih
    have HAL := hid hall
    have HNE := hid hne
    clear ih hall hbw ho hn hne
    simp only [Pay.cells]
    go_enter Try.func62, Try.ntmps62
    go_wp2_with fail
    refine (count1_any p (.slice ad xs.length cap) op n Bo Bn _ (HO.out.alloc _) (HN.out.alloc _) (by omega) (by omega)).mono ?_
    rintro e w1 ⟨rfl, hb1, hr1⟩
    have hbox : Row w1 w.heap.size (p.cells (.slice ad xs.length cap)) 28 := (Row.new (w := w) (cs := p.cells (.slice ad xs.length cap)) rfl).but hb1 (by have := HN.out.lt; simp; omega)
    have q1 := hbox.c9
    have HB1 := hid hb1
    have HR1 := hid hr1
    have HBX := hid hbox
    have hs1 := hb1.size
    clear hb1 hr1 hbox
    have hbw1 : Hid (Below wb.heap.size wb w1) := HBW.out.trans (((Below.refl _ w).alloc (Nat.le_refl _) _).mono hsw |>.trans (HB1.out.below (by simp; omega) (by simp; omega)))
    have hbut1 : Hid (But [Bn] w w1) := ((But.refl _ w).alloc _).trans HB1.out
    have ho1 : Hid (Row w1 Bo [.int .i64 op] 3) := (HO.out.alloc _).but HB1.out (by simpa using HNE.out)
    have hwl := HN.out.lt
    clear HB1 HO HN HBW
    go_wp2_with fail
    go_loopw [12] (fun i wr => ∃ k : Nat, k ≤ xs.length ∧ i = .int .i64 k ∧ Hid (Row wr Bn [.int .i64 ((n + Re.counts (hits op) (xs.take k) + tick op p.op : Nat) : Int)] 3 ∧ But [Bn] w wr ∧ Row wr Bo [.int .i64 op] 3 ∧ Below wb.heap.size wb wr)) (fun i _ => xs.length - (intOf i).toNat)
    case atStart => exact ⟨0, by omega, rfl, by simpa [Re.counts] using HR1.out, hbut1.out, ho1.out, hbw1.out⟩
    case round =>
      obtain ⟨k, hk, rfl, HX⟩ := hrel
      by_cases hlt : k < xs.length
      · obtain ⟨b, o, p', ad', n', cap', rfl, HC, HI0, hbb⟩ := HAL.out.kid HX.out.2.2.2 k hlt
        have hct := Re.counts_take (hits op) xs k xs[k] (by simp [hlt])
        have hcl := Re.counts_le (hits op) xs
        have hc1 := Re.counts_take_le (hits op) xs (k + 1)
        have hsz1 := Re.size_get (xs := xs) (i := k) (a := xs[k]) (by simp [hlt])
        have hst := Re.counts_take (fun _ => true) xs k xs[k] (by simp [hlt])
        have hst1 := Re.counts_take_le (fun _ => true) xs (k + 1)
        have hcl2 := Re.counts_le (hits op) (xs.take k)
        simp only [Re.sizes, Re.size] at *
        have hcall := HIH.out xs[k] (by simp) (wr.alloc (.cells #[.int .i64 p'.op, .int .u64 p'.set.a, .int .u64 p'.set.b, .int .u64 p'.set.c, .int .u64 p'.set.d, .int .i64 p'.lo, .int .i64 p'.hi, .int .i64 p'.gr, .slice ad' n' cap'] 28)) _ (n + Re.counts (hits op) (xs.take k) + tick op p.op) HI0.out (HX.out.2.2.2.alloc (Nat.le_trans hsw (by have := HX.out.2.1.size; omega)) _) (HX.out.2.2.1.alloc _) (HX.out.1.alloc _) (by unfold tick; split <;> omega)
        have HCA := hid hcall
        have hct' := hid hct
        have hwr := HX.out.2.1.size
        clear hcall hct hc1 hcl hsz1 hst hst1 hcl2
        go_wp2_with (first | (with_reducible (refine wpList_load_agg rfl 28 _ rfl b (o + (k * 9)) rfl _ _ HC.out Try.underlying28 rfl (size_re9 _ _ _ _ _ _ _ _ _) ?_)))
        refine HCA.out.mono ?_
        rintro e w2 ⟨rfl, hb2, hr2⟩
        have HB2 := hid hb2
        have HR2 := hid hr2
        clear hb2 hr2 HCA
        go_wp2_with fail
        go_roundw
        case rel =>
          refine ⟨k + 1, by omega, by go_num, ?_, (HX.out.2.1.alloc _).trans HB2.out, (HX.out.2.2.1.alloc _).but HB2.out (by simpa using HNE.out), ?_⟩
          · have := HR2.out
            rw [hct'.out]
            rwa [show n + (Re.counts (hits op) (List.take k xs) + xs[k].count (hits op)) + tick op p.op = n + Re.counts (hits op) (List.take k xs) + tick op p.op + xs[k].count (hits op) by omega]
          · exact HX.out.2.2.2.trans (((Below.refl _ wr).alloc (Nat.le_refl _) _).mono (by omega) |>.trans (HB2.out.below (by simp; omega) (by simp; omega)))
        case measure => simp [intOf]; omega
      · obtain rfl : k = xs.length := by omega
        go_wp2
        go_end0
        refine ⟨rfl, HX.out.2.1, ?_⟩
        have := HX.out.1
        simpa [Re.count, Nat.add_assoc, tick] using this

theorem nat_of_hits (op : Int) (hop : op ≠ 0) (t : Re) : t.count (hits op) = t.count (· == op) := by
  have e : hits op = (· == op) := by funext o; unfold hits; simp [hop]
  rw [e]

theorem count_any (op : Int) (t : Re) (w : World) (cs : List Value) (hIn : t.In w cs) (hsz : t.size ≤ 1048576) :
    Calls Try.prog 44 #[.agg cs.toArray, .int .i64 op] w fun e w' => e = .returned (.int .i64 (t.count (hits op) : Nat)) ∧ Below w.heap.size w w' := by
  cases t with
  | mk p xs =>
    have hIn' := hIn
    rw [Re.In] at hIn
    obtain ⟨ad, cap, rfl, _⟩ := hIn
    simp only [Pay.cells]
    have HI := hid hIn'
    clear hIn'
    go_enter Try.func44, Try.ntmps44
    go_wp2_with fail
    refine (walk_any op (w.heap.size + 1) (w.heap.size + 2) w (by omega) (by omega) (by omega) (.mk p xs) _ _ 0 HI.out ?_ ?_ ?_ (by omega)).mono ?_
    · exact (((Below.refl _ w).alloc (Nat.le_refl _) _).alloc (by simp) _).alloc (by simp; omega) _
    · exact (Row.new (cs := [_]) (by simp)).alloc _
    · exact Row.new (cs := [_]) (by simp)
    rintro e w1 ⟨rfl, hb, hr⟩
    have q := hr.c1
    have HB := hid hb
    clear hr hb
    go_wp2_with fail
    go_ret
    refine ⟨ret_int (by simp), ?_⟩
    exact ((((Below.refl _ w).alloc (Nat.le_refl _) _).alloc (by simp) _).alloc (by simp; omega) _).trans (HB.out.below (by simp; omega) (by simp))

-- def RESSize := (.int .i64 (Re.size t : Nat))
-- def RESGroups := (.int .i64 (Re.groups t : Nat))
-- def RESBack := (.bool (decide (0 < Re.backs t)))
-- def ENDSize := ret_int (by simp [Re.size]; rfl)
-- def ENDGroups := ret_int (by rw [nat_of_hits 6 (by decide)]; rfl)
-- def ENDBack := ret_bool (by rw [nat_of_hits 9 (by decide)]; exact decide_eq_decide.2 (by unfold Re.backs; omega))
theorem Groups_any (t : Re) (w : World) (cs : List Value) (hIn : t.In w cs) (hsz : t.size ≤ 1048576) :
    Calls Try.prog 25 #[.agg cs.toArray] w fun e w' => e = .returned (.int .i64 (Re.groups t : Nat)) ∧ Below w.heap.size w w' := by
  cases t with
  | mk p xs =>
    have hIn' := hIn
    rw [Re.In] at hIn
    obtain ⟨ad, cap, rfl, _⟩ := hIn
    simp only [Pay.cells]
    have HI := hid hIn'
    clear hIn'
    go_enter Try.func25, Try.ntmps25
    go_wp2_with fail
    refine (count_any _ (.mk p xs) _ _ (HI.out.below ((Below.refl _ w).alloc (Nat.le_refl _) _)) hsz).mono ?_
    rintro e w1 ⟨rfl, hb⟩
    have HB := hid hb
    clear hb
    go_wp2_with fail
    all_goals go_ret
    all_goals refine ⟨ret_int (by rw [nat_of_hits 6 (by decide)]; rfl), ((Below.refl _ w).alloc (Nat.le_refl _) _).trans (HB.out.mono (by simp))⟩
end Go.Proofs.Ytnnocekencaadaa
