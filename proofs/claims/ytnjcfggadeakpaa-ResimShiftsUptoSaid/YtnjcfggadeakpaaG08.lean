/- What is learnt of a tree: the law side. -/
import Derived.Test.YtnjcfggadeakpaaG07
namespace Go.Proofs.Ytnjcfggadeakpaa
open Go.RowKit

def Facts.zero : Facts := ⟨false, 0, 0, Cs.none⟩
def Facts.empty : Facts := ⟨true, 0, 0, Cs.none⟩
def Facts.rep (f : Facts) (lo hi : Int) : Facts := ⟨decide (lo = 0) || f.null, ltimes f.least lo, ltimes f.most hi, if hi = 0 then Cs.none else f.first⟩
def Facts.cats : List Facts → Facts
  | [] => Facts.zero
  | f :: l => l.foldl Facts.cat f
def Facts.alts : List Facts → Facts
  | [] => Facts.zero
  | f :: l => l.foldl Facts.alt f
def Pay.learn (p : Pay) (l : List Facts) (g : Int → Option Facts) : Facts × (Int → Option Facts) :=
  if p.op = 2 then (⟨false, 1, 1, p.set⟩, g)
  else if p.op = 3 then (Facts.cats l, g)
  else if p.op = 4 then (Facts.alts l, g)
  else if p.op = 5 then ((l.headD Facts.zero).rep p.lo p.hi, g)
  else if p.op = 6 then (l.headD Facts.zero, fun k => if k = p.gr then some (l.headD Facts.zero) else g k)
  else if p.op = 9 then ((g p.gr).getD Facts.zero, g)
  else (Facts.empty, g)
mutual
def Re.learn : Re → (Int → Option Facts) → Facts × (Int → Option Facts)
  | .mk p xs, g => p.learn (Re.learns xs g).1 (Re.learns xs g).2
def Re.learns : List Re → (Int → Option Facts) → List Facts × (Int → Option Facts)
  | [], g => ([], g)
  | t :: ts, g => ((t.learn g).1 :: (Re.learns ts (t.learn g).2).1, (Re.learns ts (t.learn g).2).2)
end
theorem Re.learns_take : ∀ (xs : List Re) (k : Nat) (a : Re) (g : Int → Option Facts), xs[k]? = some a →
    Re.learns (xs.take (k + 1)) g = ((Re.learns (xs.take k) g).1 ++ [(a.learn (Re.learns (xs.take k) g).2).1], (a.learn (Re.learns (xs.take k) g).2).2)
  | [], k, a, g, h => by simp at h
  | t :: ts, 0, a, g, h => by
    simp at h
    subst h
    simp [Re.learns]
  | t :: ts, k + 1, a, g, h => by
    have := Re.learns_take ts k a (t.learn g).2 (by simpa using h)
    simp only [List.take_succ_cons, Re.learns] at this ⊢
    rw [this]
    simp
theorem Re.learns_len : ∀ (xs : List Re) (g : Int → Option Facts), (Re.learns xs g).1.length = xs.length
  | [], g => rfl
  | t :: ts, g => by simp [Re.learns, Re.learns_len ts]

mutual
/-- The bounds of all repetitions are such that lengths can be multiplied. -/
def Re.reps : Re → Bool
  | .mk p xs => decide (p.op = 5 → (-1 ≤ p.lo ∧ p.lo ≤ 64) ∧ (-1 ≤ p.hi ∧ p.hi ≤ 64)) && Re.repss xs
def Re.repss : List Re → Bool
  | [] => true
  | t :: ts => t.reps && Re.repss ts
end
theorem Re.repss_get : ∀ (xs : List Re), Re.repss xs = true → ∀ k (hk : k < xs.length), xs[k].reps = true
  | [], _, k, hk => by simp at hk
  | t :: ts, h, 0, hk => by simp only [Re.repss, Bool.and_eq_true] at h; exact h.1
  | t :: ts, h, k + 1, hk => by simp only [Re.repss, Bool.and_eq_true] at h; exact Re.repss_get ts h.2 k (by simpa using hk)

theorem Cs.none_wf' : Cs.none.wf := Cs.none_wf
theorem Facts.zero_wf : Facts.zero.wf := ⟨⟨by decide, by decide⟩, ⟨by decide, by decide⟩, Cs.none_wf⟩
theorem Facts.empty_wf : Facts.empty.wf := ⟨⟨by decide, by decide⟩, ⟨by decide, by decide⟩, Cs.none_wf⟩
theorem Facts.cat_wf {a b : Facts} (ha : a.wf) (hb : b.wf) : (a.cat b).wf := by
  refine ⟨ha.least.lsum hb.least, ha.most.lsum hb.most, ?_⟩
  show (if a.null then a.first.union b.first else a.first).wf
  split
  · exact Cs.union_wf ha.first hb.first
  · exact ha.first
theorem Facts.alt_wf {a b : Facts} (ha : a.wf) (hb : b.wf) : (a.alt b).wf := by
  obtain ⟨⟨h1, h2⟩, ⟨h3, h4⟩, h5⟩ := ha
  obtain ⟨⟨k1, k2⟩, ⟨k3, k4⟩, k5⟩ := hb
  refine ⟨⟨?_, ?_⟩, ⟨?_, ?_⟩, Cs.union_wf h5 k5⟩
  · show _ ≤ min _ _; omega
  · show min _ _ ≤ _; omega
  · show _ ≤ ite _ _ _; split <;> omega
  · show ite _ _ _ ≤ _; split <;> omega
theorem Facts.rep_wf {a : Facts} (ha : a.wf) (lo hi : Int) : (a.rep lo hi).wf := by
  refine ⟨ha.least.ltimes, ha.most.ltimes, ?_⟩
  show (if hi = 0 then Cs.none else a.first).wf
  split
  · exact Cs.none_wf
  · exact ha.first
theorem Facts.foldl_wf (f : Facts → Facts → Facts) (hf : ∀ a b, a.wf → b.wf → (f a b).wf) : ∀ (l : List Facts) (a : Facts), a.wf → (∀ b, b ∈ l → b.wf) → (l.foldl f a).wf
  | [], a, h, _ => h
  | b :: l, a, h, hl => Facts.foldl_wf f hf l _ (hf a b h (hl b (by simp))) (fun c hc => hl c (by simp [hc]))
def GWf (g : Int → Option Facts) : Prop := ∀ k f, g k = some f → f.wf
theorem Pay.learn_wf (p : Pay) (hp : p.set.wf) (l : List Facts) (g : Int → Option Facts) (hl : ∀ b, b ∈ l → b.wf) (hg : GWf g) : (p.learn l g).1.wf ∧ GWf (p.learn l g).2 := by
  have h0 : (l.headD Facts.zero).wf := by
    cases l with
    | nil => exact Facts.zero_wf
    | cons f l => exact hl f (by simp)
  unfold Pay.learn
  split
  · exact ⟨⟨⟨by show (-1 : Int) ≤ 1; decide, by show (1 : Int) ≤ 2147483647; decide⟩, ⟨by show (-1 : Int) ≤ 1; decide, by show (1 : Int) ≤ 2147483647; decide⟩, hp⟩, hg⟩
  split
  · refine ⟨?_, hg⟩
    cases l with
    | nil => exact Facts.zero_wf
    | cons f l => exact Facts.foldl_wf _ (fun _ _ => Facts.cat_wf) l f (hl f (by simp)) (fun c hc => hl c (by simp [hc]))
  split
  · refine ⟨?_, hg⟩
    cases l with
    | nil => exact Facts.zero_wf
    | cons f l => exact Facts.foldl_wf _ (fun _ _ => Facts.alt_wf) l f (hl f (by simp)) (fun c hc => hl c (by simp [hc]))
  split
  · exact ⟨Facts.rep_wf h0 _ _, hg⟩
  split
  · refine ⟨h0, fun k f hk => ?_⟩
    dsimp only at hk
    split at hk
    · cases hk; exact h0
    · exact hg k f hk
  split
  · refine ⟨?_, hg⟩
    cases h : g p.gr with
    | none => exact Facts.zero_wf
    | some f => exact hg _ f h
  · exact ⟨Facts.empty_wf, hg⟩
mutual
theorem Re.learn_wf : ∀ (t : Re) (w : World) (cs : List Value) (g : Int → Option Facts), t.In w cs → GWf g → (t.learn g).1.wf ∧ GWf (t.learn g).2
  | .mk p xs, w, cs, g, h, hg => by
    rw [Re.In] at h
    obtain ⟨ad, cap, rfl, hwf, _, _, _, hall⟩ := h
    obtain ⟨h1, h2⟩ := Re.learns_wf xs w ad 0 g hall hg
    rw [Re.learn]
    exact Pay.learn_wf p hwf.set _ _ h1 h2
theorem Re.learns_wf : ∀ (xs : List Re) (w : World) (ad : Option Addr) (k : Nat) (g : Int → Option Facts), Re.AllIn w xs ad k → GWf g → (∀ f, f ∈ (Re.learns xs g).1 → f.wf) ∧ GWf (Re.learns xs g).2
  | [], w, ad, k, g, _, hg => by
    rw [Re.learns]
    exact And.intro (fun f hf => absurd hf (by simp)) hg
  | t :: ts, w, ad, k, g, h, hg => by
    rw [Re.AllIn] at h
    obtain ⟨⟨b, o, cs, _, _, hc⟩, h⟩ := h
    obtain ⟨h1, h2⟩ := Re.learn_wf t w cs g hc hg
    obtain ⟨h3, h4⟩ := Re.learns_wf ts w ad (k + 9) (t.learn g).2 h h2
    rw [Re.learns]
    refine And.intro (fun f hf => ?_) h4
    simp only [List.mem_cons] at hf
    rcases hf with hf | hf
    · rw [hf]; exact h1
    · exact h3 f hf
end
end Go.Proofs.Ytnjcfggadeakpaa

/- The reference's questions about a tree: what each call returns. -/
namespace Go.Proofs.Ytnjcfggadeakpaa
open Go.RowKit

/-- What holds behind a box of a node: the box, and all else as it was. -/
theorem box_facts {w wr : World} {p : Pay} {sl : Value} (h : Below (w.heap.size + 1) (w.alloc (.cells #[.int .i64 p.op, .int .u64 p.set.a, .int .u64 p.set.b, .int .u64 p.set.c, .int .u64 p.set.d, .int .i64 p.lo, .int .i64 p.hi, .int .i64 p.gr, sl] 55)) wr) :
    Row wr w.heap.size [.int .i64 p.op, .int .u64 p.set.a, .int .u64 p.set.b, .int .u64 p.set.c, .int .u64 p.set.d, .int .i64 p.lo, .int .i64 p.hi, .int .i64 p.gr, sl] 55 ∧ Below w.heap.size w wr ∧ w.heap.size < wr.heap.size := by
  have h1 := (Row.new (w := w) (cs := [.int .i64 p.op, .int .u64 p.set.a, .int .u64 p.set.b, .int .u64 p.set.c, .int .u64 p.set.d, .int .i64 p.lo, .int .i64 p.hi, .int .i64 p.gr, sl]) (T := 55) rfl).below h (by omega)
  exact ⟨h1, ((Below.refl _ w).alloc (Nat.le_refl _) _).trans (h.mono (by omega)), h1.lt⟩

set_option maxHeartbeats 1000000 in
theorem SizeRef_any (t : Re) : ∀ (w : World) (cs : List Value), t.In w cs → t.size ≤ 1048576 →
    Calls Try.prog 46 #[.agg cs.toArray] w fun e w' => e = .returned (.int .i64 (t.size : Nat)) ∧ Below w.heap.size w w' := by
  induction t using Re.ind with
  | h p xs ih =>
    intro w cs hIn hsz
    rw [Re.In] at hIn
    obtain ⟨ad, cap, rfl, hwf, hlc, hcm, hnil, hall⟩ := hIn
    have hsz' := hsz
    rw [Re.size_mk] at hsz
    have hlen := Re.sizes_len xs
    have HIH := hid ih
    have HAL := hid hall
    clear ih hall hsz'
    simp only [Pay.cells]
    go_enter Try.func46, Try.ntmps46
    go_wp2_with fail
    go_loopw [3, 4] (fun n i wr => ∃ k : Nat, k ≤ xs.length ∧ i = .int .i64 k ∧ n = .int .i64 ((Re.sizes (xs.take k) + 1 : Nat) : Int) ∧ Below (w.heap.size + 1) (w.alloc (.cells #[.int .i64 p.op, .int .u64 p.set.a, .int .u64 p.set.b, .int .u64 p.set.c, .int .u64 p.set.d, .int .i64 p.lo, .int .i64 p.hi, .int .i64 p.gr, .slice ad xs.length cap] 55)) wr) (fun _ i _ => xs.length - (intOf i).toNat)
    case atStart => exact ⟨0, by omega, rfl, rfl, Below.refl _ _⟩
    case round =>
      obtain ⟨k, hk, rfl, rfl, hbw⟩ := hrel
      obtain ⟨hbx, hbl, hlt0⟩ := box_facts hbw
      have q := hbx.c9
      have HBW := hid hbw
      have HBL := hid hbl
      clear hbw hbx hbl
      by_cases hlt : k < xs.length
      · obtain ⟨b, o, p', ad', n', cap', rfl, HC, HI0, hbb⟩ := HAL.out.kid HBL.out k hlt
        have hst := Re.counts_take (fun _ => true) xs k xs[k] (by simp [hlt])
        have hst1 := Re.counts_take_le (fun _ => true) xs (k + 1)
        simp only [Re.sizes, Re.size] at *
        have HCA := hid (HIH.out xs[k] (by simp) wr _ (HI0.out.below HBL.out) (by omega))
        have hsum : Re.counts (fun _ => true) (xs.take k) + xs[k].count (fun _ => true) ≤ Re.counts (fun _ => true) xs := by omega
        have HST := hid hst
        clear hst
        go_wp2_with (first | (with_reducible (refine wpList_load_agg rfl 55 _ rfl b (o + (k * 9)) rfl _ _ HC.out Try.underlying55 rfl (size_re9 _ _ _ _ _ _ _ _ _) ?_)))
        refine HCA.out.mono ?_
        rintro e w2 ⟨rfl, hb2⟩
        have HB2 := hid hb2
        clear hb2 HCA
        go_wp2_with fail
        go_roundw
        case rel => exact ⟨k + 1, by omega, by go_num, by rw [HST.out]; go_num, HBW.out.trans (HB2.out.mono (by omega))⟩
        case measure => simp [intOf]; omega
      · obtain rfl : k = xs.length := by omega
        go_wp2_with fail
        go_ret
        exact ⟨ret_int (by simp [Re.size_mk]), HBL.out⟩
set_option maxHeartbeats 2000000 in
theorem GroupsRef_any (t : Re) : ∀ (w : World) (cs : List Value), t.In w cs → t.size ≤ 1048576 →
    Calls Try.prog 47 #[.agg cs.toArray] w fun e w' => e = .returned (.int .i64 (t.groups : Nat)) ∧ Below w.heap.size w w' := by
  induction t using Re.ind with
  | h p xs ih =>
    intro w cs hIn hsz
    rw [Re.In] at hIn
    obtain ⟨ad, cap, rfl, hwf, hlc, hcm, hnil, hall⟩ := hIn
    rw [Re.size_mk] at hsz
    have hlen := Re.sizes_len xs
    have HIH := hid ih
    have HAL := hid hall
    have HWF := hid hwf
    clear ih hall hwf
    simp only [Pay.cells]
    by_cases o6 : p.op = 6
    · have d6 : (p.op == 6) = true := by simpa using o6
      have H6 := hid d6
      clear o6
      go_enter Try.func47, Try.ntmps47
      go_wp2_with fail
      go_loopw [3, 4] (fun n i wr => ∃ k : Nat, k ≤ xs.length ∧ i = .int .i64 k ∧ n = .int .i64 ((Re.counts (· == 6) (xs.take k) + 1 : Nat) : Int) ∧ Below (w.heap.size + 1) (w.alloc (.cells #[.int .i64 p.op, .int .u64 p.set.a, .int .u64 p.set.b, .int .u64 p.set.c, .int .u64 p.set.d, .int .i64 p.lo, .int .i64 p.hi, .int .i64 p.gr, .slice ad xs.length cap] 55)) wr) (fun n i _ => xs.length - (intOf i).toNat)
      case atStart => exact ⟨0, by omega, rfl, rfl, Below.refl _ _⟩
      case round =>
        obtain ⟨k, hk, rfl, rfl, hbw⟩ := hrel
        obtain ⟨hbx, hbl, hlt0⟩ := box_facts hbw
        have q := hbx.c9
        have HBW := hid hbw
        have HBL := hid hbl
        clear hbw hbx hbl
        by_cases hlt : k < xs.length
        · obtain ⟨b, o, p', ad', n', cap', rfl, HC, HI0, hbb⟩ := HAL.out.kid HBL.out k hlt
          have hsz1 := Re.size_get (xs := xs) (i := k) (a := xs[k]) (by simp [hlt])
          have HCA := hid (HIH.out xs[k] (by simp) wr _ (HI0.out.below HBL.out) (by omega))
          have hst := Re.counts_take (· == 6) xs k xs[k] (by simp [hlt])
          have hst1 := Re.counts_take_le (· == 6) xs (k + 1)
          have hcl := Re.counts_le (· == 6) xs
          have hsum : Re.counts (· == 6) (xs.take k) + xs[k].groups ≤ Re.counts (· == 6) xs := by simp only [Re.groups]; omega
          have HST := hid hst
          clear hst
          go_wp2_with (first | (with_reducible (refine wpList_load_agg rfl 55 _ rfl b (o + (k * 9)) rfl _ _ HC.out Try.underlying55 rfl (size_re9 _ _ _ _ _ _ _ _ _) ?_)))
          refine HCA.out.mono ?_
          rintro e w2 ⟨rfl, hb2⟩
          have HB2 := hid hb2
          clear hb2 HCA
          go_wp2_with fail
          go_roundw
          case rel => exact ⟨k + 1, by omega, by go_num, by rw [HST.out]; simp only [Re.groups]; go_num, HBW.out.trans (HB2.out.mono (by omega))⟩
          case measure => simp [intOf]; omega
        · obtain rfl : k = xs.length := by omega
          go_wp2_with fail
          go_ret
          exact ⟨ret_int (by simp [Re.groups, Re.count, H6.out]), HBL.out⟩
    · have d6 : (p.op == 6) = false := by simpa using o6
      have H6 := hid d6
      clear o6
      go_enter Try.func47, Try.ntmps47
      go_wp2_with fail
      go_loopw [3, 4] (fun n i wr => ∃ k : Nat, k ≤ xs.length ∧ i = .int .i64 k ∧ n = .int .i64 ((Re.counts (· == 6) (xs.take k) + 0 : Nat) : Int) ∧ Below (w.heap.size + 1) (w.alloc (.cells #[.int .i64 p.op, .int .u64 p.set.a, .int .u64 p.set.b, .int .u64 p.set.c, .int .u64 p.set.d, .int .i64 p.lo, .int .i64 p.hi, .int .i64 p.gr, .slice ad xs.length cap] 55)) wr) (fun n i _ => xs.length - (intOf i).toNat)
      case atStart => exact ⟨0, by omega, rfl, rfl, Below.refl _ _⟩
      case round =>
        obtain ⟨k, hk, rfl, rfl, hbw⟩ := hrel
        obtain ⟨hbx, hbl, hlt0⟩ := box_facts hbw
        have q := hbx.c9
        have HBW := hid hbw
        have HBL := hid hbl
        clear hbw hbx hbl
        by_cases hlt : k < xs.length
        · obtain ⟨b, o, p', ad', n', cap', rfl, HC, HI0, hbb⟩ := HAL.out.kid HBL.out k hlt
          have hsz1 := Re.size_get (xs := xs) (i := k) (a := xs[k]) (by simp [hlt])
          have HCA := hid (HIH.out xs[k] (by simp) wr _ (HI0.out.below HBL.out) (by omega))
          have hst := Re.counts_take (· == 6) xs k xs[k] (by simp [hlt])
          have hst1 := Re.counts_take_le (· == 6) xs (k + 1)
          have hcl := Re.counts_le (· == 6) xs
          have hsum : Re.counts (· == 6) (xs.take k) + xs[k].groups ≤ Re.counts (· == 6) xs := by simp only [Re.groups]; omega
          have HST := hid hst
          clear hst
          go_wp2_with (first | (with_reducible (refine wpList_load_agg rfl 55 _ rfl b (o + (k * 9)) rfl _ _ HC.out Try.underlying55 rfl (size_re9 _ _ _ _ _ _ _ _ _) ?_)))
          refine HCA.out.mono ?_
          rintro e w2 ⟨rfl, hb2⟩
          have HB2 := hid hb2
          clear hb2 HCA
          go_wp2_with fail
          go_roundw
          case rel => exact ⟨k + 1, by omega, by go_num, by rw [HST.out]; simp only [Re.groups]; go_num, HBW.out.trans (HB2.out.mono (by omega))⟩
          case measure => simp [intOf]; omega
        · obtain rfl : k = xs.length := by omega
          go_wp2_with fail
          go_ret
          exact ⟨ret_int (by simp [Re.groups, Re.count, H6.out]), HBL.out⟩

mutual
theorem Re.levels_le : ∀ t : Re, t.levels ≤ t.size
  | .mk p xs => by have := Re.levelss_le xs; rw [Re.levels, Re.size_mk]; omega
theorem Re.levelss_le : ∀ xs : List Re, Re.levelss xs ≤ Re.sizes xs
  | [] => by simp [Re.levelss]
  | t :: ts => by have h1 := Re.levels_le t; have h2 := Re.levelss_le ts; simp only [Re.levelss, Re.sizes, Re.counts, Re.size] at *; omega
end
theorem Re.levelss_take : ∀ (xs : List Re) (k : Nat) (a : Re), xs[k]? = some a → Re.levelss (xs.take (k + 1)) = max (Re.levelss (xs.take k)) a.levels
  | t :: ts, 0, a, h => by simp at h; subst h; simp [Re.levelss]
  | t :: ts, k + 1, a, h => by
    have := Re.levelss_take ts k a (by simpa using h)
    simp only [List.take_succ_cons, Re.levelss, this]; omega

set_option maxHeartbeats 2000000 in
theorem levelsRef_any (t : Re) : ∀ (w : World) (cs : List Value), t.In w cs → t.size ≤ 1048576 →
    Calls Try.prog 48 #[.agg cs.toArray] w fun e w' => e = .returned (.int .i64 (t.levels : Nat)) ∧ Below w.heap.size w w' := by
  induction t using Re.ind with
  | h p xs ih =>
    intro w cs hIn hsz
    rw [Re.In] at hIn
    obtain ⟨ad, cap, rfl, hwf, hlc, hcm, hnil, hall⟩ := hIn
    rw [Re.size_mk] at hsz
    have hlen := Re.sizes_len xs
    have HIH := hid ih
    have HAL := hid hall
    have HWF := hid hwf
    clear ih hall hwf
    simp only [Pay.cells]
    skip
    go_enter Try.func48, Try.ntmps48
    go_wp2_with fail
    go_loopw [3, 4, 5] (fun n i _ wr => ∃ k : Nat, k ≤ xs.length ∧ i = .int .i64 k ∧ n = .int .i64 (Re.levelss (xs.take k) : Nat) ∧ Below (w.heap.size + 1) (w.alloc (.cells #[.int .i64 p.op, .int .u64 p.set.a, .int .u64 p.set.b, .int .u64 p.set.c, .int .u64 p.set.d, .int .i64 p.lo, .int .i64 p.hi, .int .i64 p.gr, .slice ad xs.length cap] 55)) wr) (fun n i _ _ => xs.length - (intOf i).toNat)
    case atStart => exact ⟨0, by omega, rfl, rfl, Below.refl _ _⟩
    case round =>
      obtain ⟨k, hk, rfl, rfl, hbw⟩ := hrel
      obtain ⟨hbx, hbl, hlt0⟩ := box_facts hbw
      have q := hbx.c9
      have HBW := hid hbw
      have HBL := hid hbl
      clear hbw hbx hbl
      by_cases hlt : k < xs.length
      · obtain ⟨b, o, p', ad', n', cap', rfl, HC, HI0, hbb⟩ := HAL.out.kid HBL.out k hlt
        have hsz1 := Re.size_get (xs := xs) (i := k) (a := xs[k]) (by simp [hlt])
        have HCA := hid (HIH.out xs[k] (by simp) wr _ (HI0.out.below HBL.out) (by omega))
        have hst := hid (Re.levelss_take xs k xs[k] (by simp [hlt]))
        have hb1 := Re.levelss_le (xs.take k)
        have hb2 := Re.counts_take_le (fun _ => true) xs k
        have hb3 := Re.levels_le xs[k]
        simp only [Re.sizes] at *
        have hle : Re.levelss (xs.take k) ≤ 1048576 := by omega
        have hle2 : xs[k].levels ≤ 1048576 := by omega
        clear hb1 hb2 hb3
        go_wp2_with (first | (with_reducible (refine wpList_load_agg rfl 55 _ rfl b (o + (k * 9)) rfl _ _ HC.out Try.underlying55 rfl (size_re9 _ _ _ _ _ _ _ _ _) ?_)))
        refine HCA.out.mono ?_
        rintro e w2 ⟨rfl, hb2⟩
        have HB2 := hid hb2
        clear hb2 HCA
        go_wp2_with fail
        all_goals
          go_roundw
          case rel => exact ⟨k + 1, by omega, by go_num, by rw [hst.out]; first | go_num | (congr 1; omega), HBW.out.trans (HB2.out.mono (by omega))⟩
          case measure => simp [intOf]; omega
      · obtain rfl : k = xs.length := by omega
        have hb1 := Re.levelss_le xs
        simp only [Re.sizes] at *
        have hb3 : Re.levelss xs ≤ 1048576 := by omega
        clear hb1
        go_wp2_with fail
        go_ret
        exact ⟨ret_int (by simp [Re.levels]), HBL.out⟩

set_option maxHeartbeats 2000000 in
theorem BackRef_any (t : Re) : ∀ (w : World) (cs : List Value), t.In w cs → t.size ≤ 1048576 →
    Calls Try.prog 30 #[.agg cs.toArray] w fun e w' => e = .returned (.bool (decide (0 < t.backs))) ∧ Below w.heap.size w w' := by
  induction t using Re.ind with
  | h p xs ih =>
    intro w cs hIn hsz
    rw [Re.In] at hIn
    obtain ⟨ad, cap, rfl, hwf, hlc, hcm, hnil, hall⟩ := hIn
    rw [Re.size_mk] at hsz
    have hlen := Re.sizes_len xs
    have HIH := hid ih
    have HAL := hid hall
    have HWF := hid hwf
    clear ih hall hwf
    simp only [Pay.cells]
    by_cases o9 : p.op = 9
    · have d9 : (p.op == 9) = true := by simpa using o9
      go_enter Try.func30, Try.ntmps30
      go_wp2_with fail
      go_ret
      exact ⟨ret_bool (by simp [Re.backs, Re.count, o9]), (Below.refl _ _).alloc (Nat.le_refl _) _⟩
    · have d9 : (p.op == 9) = false := by simpa using o9
      have H9 := hid d9
      clear o9
      go_enter Try.func30, Try.ntmps30
      go_wp2_with fail
      go_loopw [3] (fun i wr => ∃ k : Nat, k ≤ xs.length ∧ i = .int .i64 k ∧ Hid (Re.counts (· == 9) (xs.take k) = 0) ∧ Below (w.heap.size + 1) (w.alloc (.cells #[.int .i64 p.op, .int .u64 p.set.a, .int .u64 p.set.b, .int .u64 p.set.c, .int .u64 p.set.d, .int .i64 p.lo, .int .i64 p.hi, .int .i64 p.gr, .slice ad xs.length cap] 55)) wr) (fun i _ => xs.length - (intOf i).toNat)
      case atStart => exact ⟨0, by omega, rfl, rfl, Below.refl _ _⟩
      case round =>
        obtain ⟨k, hk, rfl, hz, hbw⟩ := hrel
        obtain ⟨hbx, hbl, hlt0⟩ := box_facts hbw
        have q := hbx.c9
        have HBW := hid hbw
        have HBL := hid hbl
        clear hbw hbx hbl
        by_cases hlt : k < xs.length
        · obtain ⟨b, o, p', ad', n', cap', rfl, HC, HI0, hbb⟩ := HAL.out.kid HBL.out k hlt
          have hsz1 := Re.size_get (xs := xs) (i := k) (a := xs[k]) (by simp [hlt])
          have HCA := hid (HIH.out xs[k] (by simp) wr _ (HI0.out.below HBL.out) (by omega))
          have hst := Re.counts_take (· == 9) xs k xs[k] (by simp [hlt])
          have hst1 := Re.counts_take_le (· == 9) xs (k + 1)
          have HST := hid hst
          have HS1 := hid hst1
          clear hst hst1
          generalize hbk : decide (0 < xs[k].backs) = bk at HCA
          have HBK := hid hbk
          clear hbk
          go_wp2_with (first | (with_reducible (refine wpList_load_agg rfl 55 _ rfl b (o + (k * 9)) rfl _ _ HC.out Try.underlying55 rfl (size_re9 _ _ _ _ _ _ _ _ _) ?_)))
          refine HCA.out.mono ?_
          rintro e w2 ⟨rfl, hb2⟩
          have HB2 := hid hb2
          clear hb2 HCA
          cases bk
          · have hk0 : xs[k].count (· == 9) = 0 := by have := HBK.out; rw [decide_eq_false_iff_not] at this; simp only [Re.backs] at this; omega
            have HK0 := hid hk0
            clear hk0
            go_wp2_with fail
            go_roundw
            case rel =>
              refine ⟨k + 1, by omega, by go_num, ?_, HBW.out.trans (HB2.out.mono (by omega))⟩
              show _ = _
              rw [HST.out, hz.out, HK0.out]
            case measure => simp [intOf]; omega
          · have hk1 : 0 < xs[k].count (· == 9) := by have := HBK.out; rw [decide_eq_true_eq] at this; exact this
            have HK1 := hid hk1
            clear hk1
            go_wp2_with fail
            go_ret
            refine ⟨ret_bool ?_, HBL.out.trans (HB2.out.mono (by omega))⟩
            have h1 := HK1.out
            have h2 := HST.out
            have h3 := HS1.out
            symm
            rw [decide_eq_true_eq]
            simp only [Re.backs, Re.count]
            omega
        · obtain rfl : k = xs.length := by omega
          go_wp2_with fail
          go_ret
          exact ⟨ret_bool (by have := hz.out; rw [List.take_length] at this; simp [Re.backs, Re.count, this, H9.out]), HBL.out⟩

theorem Re.typeds_take : ∀ (xs : List Re) (k : Nat) (a : Re), xs[k]? = some a → Re.typeds (xs.take (k + 1)) = (Re.typeds (xs.take k) && a.typed)
  | t :: ts, 0, a, h => by simp at h; subst h; simp [Re.typeds]
  | t :: ts, k + 1, a, h => by
    have := Re.typeds_take ts k a (by simpa using h)
    simp only [List.take_succ_cons, Re.typeds, this, Bool.and_assoc]
theorem Re.typeds_get : ∀ (xs : List Re) (k : Nat) (a : Re), xs[k]? = some a → a.typed = false → Re.typeds xs = false
  | t :: ts, 0, a, h, h2 => by simp at h; subst h; simp [Re.typeds, h2]
  | t :: ts, k + 1, a, h, h2 => by
    have := Re.typeds_get ts k a (by simpa using h) h2
    simp [Re.typeds, this]

set_option maxHeartbeats 2000000 in
theorem typedRef_any (t : Re) : ∀ (w : World) (cs : List Value), t.In w cs → t.size ≤ 1048576 →
    Calls Try.prog 43 #[.agg cs.toArray] w fun e w' => e = .returned (.bool t.typed) ∧ Below w.heap.size w w' := by
  induction t using Re.ind with
  | h p xs ih =>
    intro w cs hIn hsz
    rw [Re.In] at hIn
    obtain ⟨ad, cap, rfl, hwf, hlc, hcm, hnil, hall⟩ := hIn
    rw [Re.size_mk] at hsz
    have hlen := Re.sizes_len xs
    have HIH := hid ih
    have HAL := hid hall
    have HWF := hid hwf
    clear ih hall hwf
    simp only [Pay.cells]
    by_cases hps : p.shaped xs.length = false
    · go_enter Try.func43, Try.ntmps43
      go_wp2_with fail
      refine (shapedRef_any p ad xs.length cap _ (by omega) HWF.out.op).mono ?_
      rw [hps]
      rintro e w1 ⟨rfl, hb1⟩
      have hb1' : Below (w.heap.size + 1) (w.alloc (.cells #[.int .i64 p.op, .int .u64 p.set.a, .int .u64 p.set.b, .int .u64 p.set.c, .int .u64 p.set.d, .int .i64 p.lo, .int .i64 p.hi, .int .i64 p.gr, .slice ad xs.length cap] 55)) w1 := hb1.mono (by simp)
      obtain ⟨hbx0, hbl0, hlt00⟩ := box_facts hb1'
      have HP := hid hps
      have HB1 := hid hb1'
      have HBL0 := hid hbl0
      have q0 := hbx0.c9
      clear hb1 hb1' hbx0 hbl0 hps
      go_wp2_with fail
      go_ret
      exact ⟨ret_bool (by simp [Re.typed, HP.out]), HBL0.out⟩
    · have hps : p.shaped xs.length = true := by simpa using hps
      go_enter Try.func43, Try.ntmps43
      go_wp2_with fail
      refine (shapedRef_any p ad xs.length cap _ (by omega) HWF.out.op).mono ?_
      rw [hps]
      rintro e w1 ⟨rfl, hb1⟩
      have hb1' : Below (w.heap.size + 1) (w.alloc (.cells #[.int .i64 p.op, .int .u64 p.set.a, .int .u64 p.set.b, .int .u64 p.set.c, .int .u64 p.set.d, .int .i64 p.lo, .int .i64 p.hi, .int .i64 p.gr, .slice ad xs.length cap] 55)) w1 := hb1.mono (by simp)
      obtain ⟨hbx0, hbl0, hlt00⟩ := box_facts hb1'
      have HP := hid hps
      have HB1 := hid hb1'
      have HBL0 := hid hbl0
      have q0 := hbx0.c9
      clear hb1 hb1' hbx0 hbl0 hps
      go_wp2_with fail
      go_loopw [3] (fun i wr => ∃ k : Nat, k ≤ xs.length ∧ i = .int .i64 k ∧ Hid (Re.typeds (xs.take k) = true) ∧ Below (w.heap.size + 1) (w.alloc (.cells #[.int .i64 p.op, .int .u64 p.set.a, .int .u64 p.set.b, .int .u64 p.set.c, .int .u64 p.set.d, .int .i64 p.lo, .int .i64 p.hi, .int .i64 p.gr, .slice ad xs.length cap] 55)) wr) (fun i _ => xs.length - (intOf i).toNat)
      case atStart => exact ⟨0, by omega, rfl, rfl, HB1.out⟩
      case round =>
        obtain ⟨k, hk, rfl, hz, hbw⟩ := hrel
        obtain ⟨hbx, hbl, hlt0⟩ := box_facts hbw
        have q := hbx.c9
        have HBW := hid hbw
        have HBL := hid hbl
        clear hbw hbx hbl
        by_cases hlt : k < xs.length
        · obtain ⟨b, o, p', ad', n', cap', rfl, HC, HI0, hbb⟩ := HAL.out.kid HBL.out k hlt
          have hsz1 := Re.size_get (xs := xs) (i := k) (a := xs[k]) (by simp [hlt])
          have HCA := hid (HIH.out xs[k] (by simp) wr _ (HI0.out.below HBL.out) (by omega))
          have HST := hid (Re.typeds_take xs k xs[k] (by simp [hlt]))
          have HSA := hid (Re.typeds_get xs k xs[k] (by simp [hlt]))
          generalize hbk : xs[k].typed = bk at HCA
          have HBK := hid hbk
          clear hbk
          go_wp2_with (first | (with_reducible (refine wpList_load_agg rfl 55 _ rfl b (o + (k * 9)) rfl _ _ HC.out Try.underlying55 rfl (size_re9 _ _ _ _ _ _ _ _ _) ?_)))
          refine HCA.out.mono ?_
          rintro e w2 ⟨rfl, hb2⟩
          have HB2 := hid hb2
          clear hb2 HCA
          cases bk
          · go_wp2_with fail
            go_ret
            refine ⟨ret_bool ?_, HBL.out.trans (HB2.out.mono (by omega))⟩
            rw [Re.typed, HSA.out HBK.out]; simp
          · go_wp2_with fail
            go_roundw
            case rel =>
              refine ⟨k + 1, by omega, by go_num, ?_, HBW.out.trans (HB2.out.mono (by omega))⟩
              show _ = _
              rw [HST.out, hz.out, HBK.out]; rfl
            case measure => simp [intOf]; omega
        · obtain rfl : k = xs.length := by omega
          go_wp2_with fail
          go_ret
          exact ⟨ret_bool (by have := hz.out; rw [List.take_length] at this; simp [Re.typed, this, HP.out]), HBL.out⟩

end Go.Proofs.Ytnjcfggadeakpaa
