/- The plain law of the check of trees: what the checker collects is what the four questions ask. No program. -/
import Derived.Test.YthnpbopnpdlmnaaD17
import Derived.Test.YthnpbopnpdlmnaaD09
namespace Go.Proofs.Ythnpbopnpdlmnaa
open Go.RowKit

mutual
def Re.typed : Re → Bool
  | .mk p xs => p.shaped xs.length && Re.typeds xs
def Re.typeds : List Re → Bool
  | [] => true
  | t :: ts => t.typed && Re.typeds ts
end
mutual
def Re.ranged : Re → Nat → Option Nat
  | .mk p xs, b => if p.op = 5 ∧ p.badRep = true then none else if p.op = 6 then (if p.gr = b + 1 then Re.rangeds xs (b + 1) else none) else Re.rangeds xs b
def Re.rangeds : List Re → Nat → Option Nat
  | [], b => some b
  | t :: ts, b => match t.ranged b with
    | some n => Re.rangeds ts n
    | none => none
end
mutual
def Re.named : Re → List Int → Option (List Int)
  | .mk p xs, l => if p.op = 9 ∧ p.gr ∉ l then none else match Re.nameds xs l with
    | some l' => if p.op = 6 then some (l' ++ [p.gr]) else some l'
    | none => none
def Re.nameds : List Re → List Int → Option (List Int)
  | [], l => some l
  | t :: ts, l => match t.named l with
    | some l' => Re.nameds ts l'
    | none => none
end
mutual
def Re.levels : Re → Nat
  | .mk _ xs => Re.levelss xs + 1
def Re.levelss : List Re → Nat
  | [] => 0
  | t :: ts => max t.levels (Re.levelss ts)
end
def Re.err (t : Re) : Int :=
  if t.typed = false then 7 else if (t.ranged 0).isNone then 2 else if (t.named []).isNone then 4 else if 600 < t.size ∨ 9 < t.groups ∨ 32 < t.levels then 3 else 0

theorem post_shape (c : Ck) (p : Pay) (n : Nat) : (c.post p n).shape = c.shape := by unfold Ck.post; split <;> rfl
theorem post_bounds (c : Ck) (p : Pay) (n : Nat) : (c.post p n).bounds = c.bounds := by unfold Ck.post; split <;> rfl
theorem post_name (c : Ck) (p : Pay) (n : Nat) : (c.post p n).name = c.name := by unfold Ck.post; split <;> rfl
mutual
theorem Re.check_shape : ∀ (t : Re) (c : Ck), (t.check c).1.shape = (c.shape || !t.typed)
  | .mk p xs, c => by
    rw [Re.check, post_shape, Re.checks_shape xs, Re.typed]
    show ((c.shape || !p.shaped xs.length) || _) = _
    cases c.shape <;> cases p.shaped xs.length <;> simp
theorem Re.checks_shape : ∀ (xs : List Re) (c : Ck) (l : Nat), (Re.checks xs c l).1.shape = (c.shape || !Re.typeds xs)
  | [], c, l => by simp [Re.checks, Re.typeds]
  | t :: ts, c, l => by
    rw [Re.checks, Re.checks_shape ts, Re.check_shape t, Re.typeds]
    cases c.shape <;> cases t.typed <;> simp
end
mutual
theorem Re.ranged_groups : ∀ (t : Re) (b n : Nat), t.ranged b = some n → n = b + t.groups
  | .mk p xs, b, n, h => by
    rw [Re.ranged] at h
    simp only [Re.groups, Re.count]
    split at h
    · cases h
    · split at h
      · rename_i h6
        split at h
        · have := Re.rangeds_groups xs (b + 1) n h; simp [h6]; omega
        · cases h
      · rename_i h6
        have := Re.rangeds_groups xs b n h; simp [h6]; omega
theorem Re.rangeds_groups : ∀ (xs : List Re) (b n : Nat), Re.rangeds xs b = some n → n = b + Re.counts (· == 6) xs
  | [], b, n, h => by simp [Re.rangeds] at h; simp [Re.counts, h]
  | t :: ts, b, n, h => by
    rw [Re.rangeds] at h
    split at h
    · rename_i m hm
      have h1 := Re.ranged_groups t b m hm
      have h2 := Re.rangeds_groups ts m n h
      simp only [Re.counts, Re.groups] at *; omega
    · cases h
end
mutual
theorem Re.check_bounds : ∀ (t : Re) (c : Ck), (t.check c).1.bounds = (c.bounds || (t.ranged c.groups).isNone)
  | .mk p xs, c => by
    rw [Re.check, post_bounds, Re.checks_bounds xs, Re.ranged]
    by_cases h5 : p.op = 5
    · have e : (c.pre p xs.length).groups = c.groups := by simp [Ck.pre, h5]
      have e2 : (c.pre p xs.length).bounds = (c.bounds || p.badRep) := by simp [Ck.pre, h5]
      rw [e, e2]
      cases hb : p.badRep <;> simp [h5]
    · by_cases h6 : p.op = 6
      · have e : (c.pre p xs.length).groups = c.groups + 1 := by simp [Ck.pre, h6]
        have e2 : (c.pre p xs.length).bounds = (c.bounds || decide (p.gr ≠ c.groups + 1)) := by simp [Ck.pre, h6]
        rw [e, e2]
        by_cases hg : p.gr = c.groups + 1
        · simp [h6, hg]
        · simp [h6, hg]
      · have e : (c.pre p xs.length).groups = c.groups := by simp [Ck.pre, h6]
        have e2 : (c.pre p xs.length).bounds = c.bounds := by simp [Ck.pre, h5, h6]
        rw [e, e2]
        simp [h5, h6]
theorem Re.checks_bounds : ∀ (xs : List Re) (c : Ck) (l : Nat), (Re.checks xs c l).1.bounds = (c.bounds || (Re.rangeds xs c.groups).isNone)
  | [], c, l => by simp [Re.checks, Re.rangeds]
  | t :: ts, c, l => by
    rw [Re.checks, Re.checks_bounds ts, Re.check_bounds t, Re.check_groups t, Re.rangeds]
    cases h : t.ranged c.groups with
    | none => simp
    | some n => rw [Re.ranged_groups t _ _ h]; simp
end
mutual
theorem Re.check_levels_eq : ∀ (t : Re) (c : Ck), (t.check c).2 = t.levels
  | .mk p xs, c => by rw [Re.check, Re.levels, Re.checks_levels_eq xs]; simp
theorem Re.checks_levels_eq : ∀ (xs : List Re) (c : Ck) (l : Nat), (Re.checks xs c l).2 = max l (Re.levelss xs)
  | [], c, l => by simp [Re.checks, Re.levelss]
  | t :: ts, c, l => by rw [Re.checks, Re.checks_levels_eq ts, Re.check_levels_eq t, Re.levelss]; omega
end
mutual
theorem Re.check_names : ∀ (t : Re) (c : Ck) (l : List Int), (t.ranged c.groups).isSome → (c.closed = fun k => decide (k ∈ l)) →
    (t.check c).1.name = (c.name || (t.named l).isNone) ∧ ∀ l', t.named l = some l' → (t.check c).1.closed = fun k => decide (k ∈ l')
  | .mk p xs, c, l, hr, hc => by
    rw [Re.ranged] at hr
    rw [Re.check, Re.named]
    have hr' : (Re.rangeds xs (c.pre p xs.length).groups).isSome ∧ (p.op = 6 → p.gr = c.groups + 1) := by
      by_cases h5 : p.op = 5 ∧ p.badRep = true
      · simp [h5] at hr
      · rw [if_neg h5] at hr
        by_cases h6 : p.op = 6
        · rw [if_pos h6] at hr
          by_cases hg : p.gr = c.groups + 1
          · rw [if_pos hg] at hr
            exact ⟨by simpa [Ck.pre, h6] using hr, fun _ => hg⟩
          · rw [if_neg hg] at hr; simp at hr
        · rw [if_neg h6] at hr
          exact ⟨by simpa [Ck.pre, h6] using hr, fun h => absurd h h6⟩
    obtain ⟨hr1, hr2⟩ := hr'
    obtain ⟨h1, h2⟩ := Re.checks_names xs (c.pre p xs.length) 0 l hr1 (by show c.closed = _; exact hc)
    rw [post_name, h1]
    by_cases h9 : p.op = 9
    · have hn : (c.pre p xs.length).name = (c.name || !decide (p.gr ∈ l)) := by simp [Ck.pre, h9, hc]
      rw [hn]
      by_cases hm : p.gr ∈ l
      · have e6 : ¬ p.op = 6 := by omega
        simp only [h9, hm]
        cases hx : Re.nameds xs l with
        | none => simp
        | some l'' => simp [h2 l'' hx, Ck.post, h9]
      · simp [h9, hm]
    · have hn : (c.pre p xs.length).name = c.name := by simp [Ck.pre, h9]
      rw [hn]
      cases hx : Re.nameds xs l with
      | none => simp [h9]
      | some l'' =>
        by_cases h6 : p.op = 6
        · have hg := hr2 h6
          have ho : (c.pre p xs.length).groups = c.groups + 1 := by simp [Ck.pre, h6]
          simp only [h6]
          refine ⟨by simp, fun l' hl' => ?_⟩
          simp at hl'
          subst hl'
          rw [Ck.post, if_pos ⟨h6, by rw [hg, ho]; simp⟩]
          funext k
          simp only [h2 l'' hx, ho]
          rw [Bool.eq_iff_iff]
          simp [hg]
          exact or_comm
        · simp only [h6, h9]
          refine ⟨by simp, fun l' hl' => ?_⟩
          simp at hl'
          subst hl'
          rw [Ck.post, if_neg (fun h => h6 h.1)]
          exact h2 l'' hx
theorem Re.checks_names : ∀ (xs : List Re) (c : Ck) (m : Nat) (l : List Int), (Re.rangeds xs c.groups).isSome → (c.closed = fun k => decide (k ∈ l)) →
    (Re.checks xs c m).1.name = (c.name || (Re.nameds xs l).isNone) ∧ ∀ l', Re.nameds xs l = some l' → (Re.checks xs c m).1.closed = fun k => decide (k ∈ l')
  | [], c, m, l, hr, hc => by simp [Re.checks, Re.nameds]; exact hc
  | t :: ts, c, m, l, hr, hc => by
    rw [Re.rangeds] at hr
    rw [Re.checks, Re.nameds]
    cases hx : t.ranged c.groups with
    | none => rw [hx] at hr; simp at hr
    | some n =>
      rw [hx] at hr
      obtain ⟨h1, h2⟩ := Re.check_names t c l (by rw [hx]; rfl) hc
      have hn := Re.ranged_groups t _ _ hx
      cases hy : t.named l with
      | none =>
        rw [hy] at h1
        have key : ∀ (xs : List Re) (c : Ck) (m : Nat), c.name = true → (Re.checks xs c m).1.name = true := fun xs c m hc => Re.checks_name_true xs c m hc
        refine ⟨?_, fun l' hl' => by simp at hl'⟩
        rw [key _ _ _ (by rw [h1]; simp)]; simp
      | some l1 =>
        have h3 := h2 l1 hy
        obtain ⟨h4, h5⟩ := Re.checks_names ts (t.check c).1 (max m (t.check c).2) l1 (by rw [Re.check_groups, ← hn]; exact hr) h3
        rw [hy] at h1
        refine ⟨?_, h5⟩
        rw [h4, h1]; simp
theorem Re.check_name_true : ∀ (t : Re) (c : Ck), c.name = true → (t.check c).1.name = true
  | .mk p xs, c, h => by rw [Re.check, post_name]; exact Re.checks_name_true xs _ _ (by simp [Ck.pre, h])
theorem Re.checks_name_true : ∀ (xs : List Re) (c : Ck) (m : Nat), c.name = true → (Re.checks xs c m).1.name = true
  | [], c, m, h => by simpa [Re.checks] using h
  | t :: ts, c, m, h => by rw [Re.checks]; exact Re.checks_name_true ts _ _ (Re.check_name_true t c h)
end

def Ck.init : Ck := { shape := false, bounds := false, name := false, nodes := 0, groups := 0, closed := fun _ => false }
def Ck.err (c : Ck) (levels : Nat) : Int := if c.shape then 7 else if c.bounds then 2 else if c.name then 4 else if 600 < c.nodes ∨ 9 < c.groups ∨ 32 < levels then 3 else 0
theorem Re.err_check (t : Re) : (t.check Ck.init).1.err (t.check Ck.init).2 = t.err := by
  unfold Ck.err Re.err
  rw [Re.check_shape, Re.check_bounds, Re.check_levels_eq, Re.check_nodes, Re.check_groups]
  have e1 : Ck.init.shape = false := rfl
  have e2 : Ck.init.bounds = false := rfl
  have e3 : Ck.init.groups = 0 := rfl
  have e4 : Ck.init.nodes = 0 := rfl
  rw [e1, e2, e3, e4]
  cases ht : t.typed
  · simp
  · cases hr : t.ranged 0 with
    | none => simp
    | some n =>
      have h := (Re.check_names t Ck.init [] (by rw [e3, hr]; rfl) (by funext k; simp [Ck.init])).1
      rw [h]
      have e5 : Ck.init.name = false := rfl
      rw [e5]
      cases hn : t.named [] <;> simp
end Go.Proofs.Ythnpbopnpdlmnaa

/- The reference's questions about a tree: what each call returns. -/
namespace Go.Proofs.Ythnpbopnpdlmnaa
open Go.RowKit

theorem box_facts {w wr : World} {p : Pay} {sl : Value} (h : Below (w.heap.size + 1) (w.alloc (.cells #[.int .i64 p.op, .int .u64 p.set.a, .int .u64 p.set.b, .int .u64 p.set.c, .int .u64 p.set.d, .int .i64 p.lo, .int .i64 p.hi, .int .i64 p.gr, sl] 28)) wr) :
    Row wr w.heap.size [.int .i64 p.op, .int .u64 p.set.a, .int .u64 p.set.b, .int .u64 p.set.c, .int .u64 p.set.d, .int .i64 p.lo, .int .i64 p.hi, .int .i64 p.gr, sl] 28 ∧ Below w.heap.size w wr ∧ w.heap.size < wr.heap.size := by
  have h1 := (Row.new (w := w) (cs := [.int .i64 p.op, .int .u64 p.set.a, .int .u64 p.set.b, .int .u64 p.set.c, .int .u64 p.set.d, .int .i64 p.lo, .int .i64 p.hi, .int .i64 p.gr, sl]) (T := 28) rfl).below h (by omega)
  exact ⟨h1, ((Below.refl _ w).alloc (Nat.le_refl _) _).trans (h.mono (by omega)), h1.lt⟩

set_option maxHeartbeats 1000000 in
theorem SizeRef_any (t : Re) : ∀ (w : World) (cs : List Value), t.In w cs → t.size ≤ 1048576 →
    Calls Try.prog 28 #[.agg cs.toArray] w fun e w' => e = .returned (.int .i64 (t.size : Nat)) ∧ Below w.heap.size w w' := by
  induction t using Re.ind with
  | h p xs ih =>
    intro w cs hIn hsz
    rw [Re.In] at hIn
    obtain ⟨ad, cap, rfl, hwf, hlc, hcm, hnil, hall⟩ := hIn
    have hsz' := hsz
    rw [Re.size_mk] at hsz
    have hlen := Re.sizes_len xs
    have HIH := hid ih
    have HAL := hid hall
    clear ih hall hsz'
    simp only [Pay.cells]
    go_enter Try.func28, Try.ntmps28
    go_wp2_with fail
    go_loopw [3, 4] (fun n i wr => ∃ k : Nat, k ≤ xs.length ∧ i = .int .i64 k ∧ n = .int .i64 ((Re.sizes (xs.take k) + 1 : Nat) : Int) ∧ Below (w.heap.size + 1) (w.alloc (.cells #[.int .i64 p.op, .int .u64 p.set.a, .int .u64 p.set.b, .int .u64 p.set.c, .int .u64 p.set.d, .int .i64 p.lo, .int .i64 p.hi, .int .i64 p.gr, .slice ad xs.length cap] 28)) wr) (fun _ i _ => xs.length - (intOf i).toNat)
    case atStart => exact ⟨0, by omega, rfl, rfl, Below.refl _ _⟩
    case round =>
      obtain ⟨k, hk, rfl, rfl, hbw⟩ := hrel
      obtain ⟨hbx, hbl, hlt0⟩ := box_facts hbw
      have q := hbx.c9
      have HBW := hid hbw
      have HBL := hid hbl
      clear hbw hbx hbl
      by_cases hlt : k < xs.length
      · obtain ⟨b, o, p', ad', n', cap', rfl, HC, HI0, hbb⟩ := HAL.out.kid HBL.out k hlt
        have hst := Re.counts_take (fun _ => true) xs k xs[k] (by simp [hlt])
        have hst1 := Re.counts_take_le (fun _ => true) xs (k + 1)
        simp only [Re.sizes, Re.size] at *
        have HCA := hid (HIH.out xs[k] (by simp) wr _ (HI0.out.below HBL.out) (by omega))
        have hsum : Re.counts (fun _ => true) (xs.take k) + xs[k].count (fun _ => true) ≤ Re.counts (fun _ => true) xs := by omega
        have HST := hid hst
        clear hst
        go_wp2_with (first | (with_reducible (refine wpList_load_agg rfl 28 _ rfl b (o + (k * 9)) rfl _ _ HC.out Try.underlying28 rfl (size_re9 _ _ _ _ _ _ _ _ _) ?_)))
        refine HCA.out.mono ?_
        rintro e w2 ⟨rfl, hb2⟩
        have HB2 := hid hb2
        clear hb2 HCA
        go_wp2_with fail
        go_roundw
        case rel => exact ⟨k + 1, by omega, by go_num, by rw [HST.out]; go_num, HBW.out.trans (HB2.out.mono (by omega))⟩
        case measure => simp [intOf]; omega
      · obtain rfl : k = xs.length := by omega
        go_wp2_with fail
        go_ret
        exact ⟨ret_int (by simp [Re.size_mk]), HBL.out⟩
set_option maxHeartbeats 2000000 in
theorem GroupsRef_any (t : Re) : ∀ (w : World) (cs : List Value), t.In w cs → t.size ≤ 1048576 →
    Calls Try.prog 8 #[.agg cs.toArray] w fun e w' => e = .returned (.int .i64 (t.groups : Nat)) ∧ Below w.heap.size w w' := by
  induction t using Re.ind with
  | h p xs ih =>
    intro w cs hIn hsz
    rw [Re.In] at hIn
    obtain ⟨ad, cap, rfl, hwf, hlc, hcm, hnil, hall⟩ := hIn
    rw [Re.size_mk] at hsz
    have hlen := Re.sizes_len xs
    have HIH := hid ih
    have HAL := hid hall
    have HWF := hid hwf
    clear ih hall hwf
    simp only [Pay.cells]
    by_cases o6 : p.op = 6
    · have d6 : (p.op == 6) = true := by simpa using o6
      have H6 := hid d6
      clear o6
      go_enter Try.func8, Try.ntmps8
      go_wp2_with fail
      go_loopw [3, 4] (fun n i wr => ∃ k : Nat, k ≤ xs.length ∧ i = .int .i64 k ∧ n = .int .i64 ((Re.counts (· == 6) (xs.take k) + 1 : Nat) : Int) ∧ Below (w.heap.size + 1) (w.alloc (.cells #[.int .i64 p.op, .int .u64 p.set.a, .int .u64 p.set.b, .int .u64 p.set.c, .int .u64 p.set.d, .int .i64 p.lo, .int .i64 p.hi, .int .i64 p.gr, .slice ad xs.length cap] 28)) wr) (fun n i _ => xs.length - (intOf i).toNat)
      case atStart => exact ⟨0, by omega, rfl, rfl, Below.refl _ _⟩
      case round =>
        obtain ⟨k, hk, rfl, rfl, hbw⟩ := hrel
        obtain ⟨hbx, hbl, hlt0⟩ := box_facts hbw
        have q := hbx.c9
        have HBW := hid hbw
        have HBL := hid hbl
        clear hbw hbx hbl
        by_cases hlt : k < xs.length
        · obtain ⟨b, o, p', ad', n', cap', rfl, HC, HI0, hbb⟩ := HAL.out.kid HBL.out k hlt
          have hsz1 := Re.size_get (xs := xs) (i := k) (a := xs[k]) (by simp [hlt])
          have HCA := hid (HIH.out xs[k] (by simp) wr _ (HI0.out.below HBL.out) (by omega))
          have hst := Re.counts_take (· == 6) xs k xs[k] (by simp [hlt])
          have hst1 := Re.counts_take_le (· == 6) xs (k + 1)
          have hcl := Re.counts_le (· == 6) xs
          have hsum : Re.counts (· == 6) (xs.take k) + xs[k].groups ≤ Re.counts (· == 6) xs := by simp only [Re.groups]; omega
          have HST := hid hst
          clear hst
          go_wp2_with (first | (with_reducible (refine wpList_load_agg rfl 28 _ rfl b (o + (k * 9)) rfl _ _ HC.out Try.underlying28 rfl (size_re9 _ _ _ _ _ _ _ _ _) ?_)))
          refine HCA.out.mono ?_
          rintro e w2 ⟨rfl, hb2⟩
          have HB2 := hid hb2
          clear hb2 HCA
          go_wp2_with fail
          go_roundw
          case rel => exact ⟨k + 1, by omega, by go_num, by rw [HST.out]; simp only [Re.groups]; go_num, HBW.out.trans (HB2.out.mono (by omega))⟩
          case measure => simp [intOf]; omega
        · obtain rfl : k = xs.length := by omega
          go_wp2_with fail
          go_ret
          exact ⟨ret_int (by simp [Re.groups, Re.count, H6.out]), HBL.out⟩
    · have d6 : (p.op == 6) = false := by simpa using o6
      have H6 := hid d6
      clear o6
      go_enter Try.func8, Try.ntmps8
      go_wp2_with fail
      go_loopw [3, 4] (fun n i wr => ∃ k : Nat, k ≤ xs.length ∧ i = .int .i64 k ∧ n = .int .i64 ((Re.counts (· == 6) (xs.take k) + 0 : Nat) : Int) ∧ Below (w.heap.size + 1) (w.alloc (.cells #[.int .i64 p.op, .int .u64 p.set.a, .int .u64 p.set.b, .int .u64 p.set.c, .int .u64 p.set.d, .int .i64 p.lo, .int .i64 p.hi, .int .i64 p.gr, .slice ad xs.length cap] 28)) wr) (fun n i _ => xs.length - (intOf i).toNat)
      case atStart => exact ⟨0, by omega, rfl, rfl, Below.refl _ _⟩
      case round =>
        obtain ⟨k, hk, rfl, rfl, hbw⟩ := hrel
        obtain ⟨hbx, hbl, hlt0⟩ := box_facts hbw
        have q := hbx.c9
        have HBW := hid hbw
        have HBL := hid hbl
        clear hbw hbx hbl
        by_cases hlt : k < xs.length
        · obtain ⟨b, o, p', ad', n', cap', rfl, HC, HI0, hbb⟩ := HAL.out.kid HBL.out k hlt
          have hsz1 := Re.size_get (xs := xs) (i := k) (a := xs[k]) (by simp [hlt])
          have HCA := hid (HIH.out xs[k] (by simp) wr _ (HI0.out.below HBL.out) (by omega))
          have hst := Re.counts_take (· == 6) xs k xs[k] (by simp [hlt])
          have hst1 := Re.counts_take_le (· == 6) xs (k + 1)
          have hcl := Re.counts_le (· == 6) xs
          have hsum : Re.counts (· == 6) (xs.take k) + xs[k].groups ≤ Re.counts (· == 6) xs := by simp only [Re.groups]; omega
          have HST := hid hst
          clear hst
          go_wp2_with (first | (with_reducible (refine wpList_load_agg rfl 28 _ rfl b (o + (k * 9)) rfl _ _ HC.out Try.underlying28 rfl (size_re9 _ _ _ _ _ _ _ _ _) ?_)))
          refine HCA.out.mono ?_
          rintro e w2 ⟨rfl, hb2⟩
          have HB2 := hid hb2
          clear hb2 HCA
          go_wp2_with fail
          go_roundw
          case rel => exact ⟨k + 1, by omega, by go_num, by rw [HST.out]; simp only [Re.groups]; go_num, HBW.out.trans (HB2.out.mono (by omega))⟩
          case measure => simp [intOf]; omega
        · obtain rfl : k = xs.length := by omega
          go_wp2_with fail
          go_ret
          exact ⟨ret_int (by simp [Re.groups, Re.count, H6.out]), HBL.out⟩

mutual
theorem Re.levels_le : ∀ t : Re, t.levels ≤ t.size
  | .mk p xs => by have := Re.levelss_le xs; rw [Re.levels, Re.size_mk]; omega
theorem Re.levelss_le : ∀ xs : List Re, Re.levelss xs ≤ Re.sizes xs
  | [] => by simp [Re.levelss]
  | t :: ts => by have h1 := Re.levels_le t; have h2 := Re.levelss_le ts; simp only [Re.levelss, Re.sizes, Re.counts, Re.size] at *; omega
end
theorem Re.levelss_take : ∀ (xs : List Re) (k : Nat) (a : Re), xs[k]? = some a → Re.levelss (xs.take (k + 1)) = max (Re.levelss (xs.take k)) a.levels
  | t :: ts, 0, a, h => by simp at h; subst h; simp [Re.levelss]
  | t :: ts, k + 1, a, h => by
    have := Re.levelss_take ts k a (by simpa using h)
    simp only [List.take_succ_cons, Re.levelss, this]; omega

set_option maxHeartbeats 2000000 in
theorem levelsRef_any (t : Re) : ∀ (w : World) (cs : List Value), t.In w cs → t.size ≤ 1048576 →
    Calls Try.prog 29 #[.agg cs.toArray] w fun e w' => e = .returned (.int .i64 (t.levels : Nat)) ∧ Below w.heap.size w w' := by
  induction t using Re.ind with
  | h p xs ih =>
    intro w cs hIn hsz
    rw [Re.In] at hIn
    obtain ⟨ad, cap, rfl, hwf, hlc, hcm, hnil, hall⟩ := hIn
    rw [Re.size_mk] at hsz
    have hlen := Re.sizes_len xs
    have HIH := hid ih
    have HAL := hid hall
    have HWF := hid hwf
    clear ih hall hwf
    simp only [Pay.cells]
    skip
    go_enter Try.func29, Try.ntmps29
    go_wp2_with fail
    go_loopw [3, 4, 5] (fun n i _ wr => ∃ k : Nat, k ≤ xs.length ∧ i = .int .i64 k ∧ n = .int .i64 (Re.levelss (xs.take k) : Nat) ∧ Below (w.heap.size + 1) (w.alloc (.cells #[.int .i64 p.op, .int .u64 p.set.a, .int .u64 p.set.b, .int .u64 p.set.c, .int .u64 p.set.d, .int .i64 p.lo, .int .i64 p.hi, .int .i64 p.gr, .slice ad xs.length cap] 28)) wr) (fun n i _ _ => xs.length - (intOf i).toNat)
    case atStart => exact ⟨0, by omega, rfl, rfl, Below.refl _ _⟩
    case round =>
      obtain ⟨k, hk, rfl, rfl, hbw⟩ := hrel
      obtain ⟨hbx, hbl, hlt0⟩ := box_facts hbw
      have q := hbx.c9
      have HBW := hid hbw
      have HBL := hid hbl
      clear hbw hbx hbl
      by_cases hlt : k < xs.length
      · obtain ⟨b, o, p', ad', n', cap', rfl, HC, HI0, hbb⟩ := HAL.out.kid HBL.out k hlt
        have hsz1 := Re.size_get (xs := xs) (i := k) (a := xs[k]) (by simp [hlt])
        have HCA := hid (HIH.out xs[k] (by simp) wr _ (HI0.out.below HBL.out) (by omega))
        have hst := hid (Re.levelss_take xs k xs[k] (by simp [hlt]))
        have hb1 := Re.levelss_le (xs.take k)
        have hb2 := Re.counts_take_le (fun _ => true) xs k
        have hb3 := Re.levels_le xs[k]
        simp only [Re.sizes] at *
        have hle : Re.levelss (xs.take k) ≤ 1048576 := by omega
        have hle2 : xs[k].levels ≤ 1048576 := by omega
        clear hb1 hb2 hb3
        go_wp2_with (first | (with_reducible (refine wpList_load_agg rfl 28 _ rfl b (o + (k * 9)) rfl _ _ HC.out Try.underlying28 rfl (size_re9 _ _ _ _ _ _ _ _ _) ?_)))
        refine HCA.out.mono ?_
        rintro e w2 ⟨rfl, hb2⟩
        have HB2 := hid hb2
        clear hb2 HCA
        go_wp2_with fail
        all_goals
          go_roundw
          case rel => exact ⟨k + 1, by omega, by go_num, by rw [hst.out]; first | go_num | (congr 1; omega), HBW.out.trans (HB2.out.mono (by omega))⟩
          case measure => simp [intOf]; omega
      · obtain rfl : k = xs.length := by omega
        have hb1 := Re.levelss_le xs
        simp only [Re.sizes] at *
        have hb3 : Re.levelss xs ≤ 1048576 := by omega
        clear hb1
        go_wp2_with fail
        go_ret
        exact ⟨ret_int (by simp [Re.levels]), HBL.out⟩

set_option maxHeartbeats 2000000 in
theorem BackRef_any (t : Re) : ∀ (w : World) (cs : List Value), t.In w cs → t.size ≤ 1048576 →
    Calls Try.prog 9 #[.agg cs.toArray] w fun e w' => e = .returned (.bool (decide (0 < t.backs))) ∧ Below w.heap.size w w' := by
  induction t using Re.ind with
  | h p xs ih =>
    intro w cs hIn hsz
    rw [Re.In] at hIn
    obtain ⟨ad, cap, rfl, hwf, hlc, hcm, hnil, hall⟩ := hIn
    rw [Re.size_mk] at hsz
    have hlen := Re.sizes_len xs
    have HIH := hid ih
    have HAL := hid hall
    have HWF := hid hwf
    clear ih hall hwf
    simp only [Pay.cells]
    by_cases o9 : p.op = 9
    · have d9 : (p.op == 9) = true := by simpa using o9
      go_enter Try.func9, Try.ntmps9
      go_wp2_with fail
      go_ret
      exact ⟨ret_bool (by simp [Re.backs, Re.count, o9]), (Below.refl _ _).alloc (Nat.le_refl _) _⟩
    · have d9 : (p.op == 9) = false := by simpa using o9
      have H9 := hid d9
      clear o9
      go_enter Try.func9, Try.ntmps9
      go_wp2_with fail
      go_loopw [3] (fun i wr => ∃ k : Nat, k ≤ xs.length ∧ i = .int .i64 k ∧ Hid (Re.counts (· == 9) (xs.take k) = 0) ∧ Below (w.heap.size + 1) (w.alloc (.cells #[.int .i64 p.op, .int .u64 p.set.a, .int .u64 p.set.b, .int .u64 p.set.c, .int .u64 p.set.d, .int .i64 p.lo, .int .i64 p.hi, .int .i64 p.gr, .slice ad xs.length cap] 28)) wr) (fun i _ => xs.length - (intOf i).toNat)
      case atStart => exact ⟨0, by omega, rfl, rfl, Below.refl _ _⟩
      case round =>
        obtain ⟨k, hk, rfl, hz, hbw⟩ := hrel
        obtain ⟨hbx, hbl, hlt0⟩ := box_facts hbw
        have q := hbx.c9
        have HBW := hid hbw
        have HBL := hid hbl
        clear hbw hbx hbl
        by_cases hlt : k < xs.length
        · obtain ⟨b, o, p', ad', n', cap', rfl, HC, HI0, hbb⟩ := HAL.out.kid HBL.out k hlt
          have hsz1 := Re.size_get (xs := xs) (i := k) (a := xs[k]) (by simp [hlt])
          have HCA := hid (HIH.out xs[k] (by simp) wr _ (HI0.out.below HBL.out) (by omega))
          have hst := Re.counts_take (· == 9) xs k xs[k] (by simp [hlt])
          have hst1 := Re.counts_take_le (· == 9) xs (k + 1)
          have HST := hid hst
          have HS1 := hid hst1
          clear hst hst1
          generalize hbk : decide (0 < xs[k].backs) = bk at HCA
          have HBK := hid hbk
          clear hbk
          go_wp2_with (first | (with_reducible (refine wpList_load_agg rfl 28 _ rfl b (o + (k * 9)) rfl _ _ HC.out Try.underlying28 rfl (size_re9 _ _ _ _ _ _ _ _ _) ?_)))
          refine HCA.out.mono ?_
          rintro e w2 ⟨rfl, hb2⟩
          have HB2 := hid hb2
          clear hb2 HCA
          cases bk
          · have hk0 : xs[k].count (· == 9) = 0 := by have := HBK.out; rw [decide_eq_false_iff_not] at this; simp only [Re.backs] at this; omega
            have HK0 := hid hk0
            clear hk0
            go_wp2_with fail
            go_roundw
            case rel =>
              refine ⟨k + 1, by omega, by go_num, ?_, HBW.out.trans (HB2.out.mono (by omega))⟩
              show _ = _
              rw [HST.out, hz.out, HK0.out]
            case measure => simp [intOf]; omega
          · have hk1 : 0 < xs[k].count (· == 9) := by have := HBK.out; rw [decide_eq_true_eq] at this; exact this
            have HK1 := hid hk1
            clear hk1
            go_wp2_with fail
            go_ret
            refine ⟨ret_bool ?_, HBL.out.trans (HB2.out.mono (by omega))⟩
            have h1 := HK1.out
            have h2 := HST.out
            have h3 := HS1.out
            symm
            rw [decide_eq_true_eq]
            simp only [Re.backs, Re.count]
            omega
        · obtain rfl : k = xs.length := by omega
          go_wp2_with fail
          go_ret
          exact ⟨ret_bool (by have := hz.out; rw [List.take_length] at this; simp [Re.backs, Re.count, this, H9.out]), HBL.out⟩

theorem Re.typeds_take : ∀ (xs : List Re) (k : Nat) (a : Re), xs[k]? = some a → Re.typeds (xs.take (k + 1)) = (Re.typeds (xs.take k) && a.typed)
  | t :: ts, 0, a, h => by simp at h; subst h; simp [Re.typeds]
  | t :: ts, k + 1, a, h => by
    have := Re.typeds_take ts k a (by simpa using h)
    simp only [List.take_succ_cons, Re.typeds, this, Bool.and_assoc]
theorem Re.typeds_get : ∀ (xs : List Re) (k : Nat) (a : Re), xs[k]? = some a → a.typed = false → Re.typeds xs = false
  | t :: ts, 0, a, h, h2 => by simp at h; subst h; simp [Re.typeds, h2]
  | t :: ts, k + 1, a, h, h2 => by
    have := Re.typeds_get ts k a (by simpa using h) h2
    simp [Re.typeds, this]

set_option maxHeartbeats 2000000 in
theorem typedRef_any (t : Re) : ∀ (w : World) (cs : List Value), t.In w cs → t.size ≤ 1048576 →
    Calls Try.prog 25 #[.agg cs.toArray] w fun e w' => e = .returned (.bool t.typed) ∧ Below w.heap.size w w' := by
  induction t using Re.ind with
  | h p xs ih =>
    intro w cs hIn hsz
    rw [Re.In] at hIn
    obtain ⟨ad, cap, rfl, hwf, hlc, hcm, hnil, hall⟩ := hIn
    rw [Re.size_mk] at hsz
    have hlen := Re.sizes_len xs
    have HIH := hid ih
    have HAL := hid hall
    have HWF := hid hwf
    clear ih hall hwf
    simp only [Pay.cells]
    by_cases hps : p.shaped xs.length = false
    · go_enter Try.func25, Try.ntmps25
      go_wp2_with fail
      refine (shapedRef_any p ad xs.length cap _ (by omega) HWF.out.op).mono ?_
      rw [hps]
      rintro e w1 ⟨rfl, hb1⟩
      have hb1' : Below (w.heap.size + 1) (w.alloc (.cells #[.int .i64 p.op, .int .u64 p.set.a, .int .u64 p.set.b, .int .u64 p.set.c, .int .u64 p.set.d, .int .i64 p.lo, .int .i64 p.hi, .int .i64 p.gr, .slice ad xs.length cap] 28)) w1 := hb1.mono (by simp)
      obtain ⟨hbx0, hbl0, hlt00⟩ := box_facts hb1'
      have HP := hid hps
      have HB1 := hid hb1'
      have HBL0 := hid hbl0
      have q0 := hbx0.c9
      clear hb1 hb1' hbx0 hbl0 hps
      go_wp2_with fail
      go_ret
      exact ⟨ret_bool (by simp [Re.typed, HP.out]), HBL0.out⟩
    · have hps : p.shaped xs.length = true := by simpa using hps
      go_enter Try.func25, Try.ntmps25
      go_wp2_with fail
      refine (shapedRef_any p ad xs.length cap _ (by omega) HWF.out.op).mono ?_
      rw [hps]
      rintro e w1 ⟨rfl, hb1⟩
      have hb1' : Below (w.heap.size + 1) (w.alloc (.cells #[.int .i64 p.op, .int .u64 p.set.a, .int .u64 p.set.b, .int .u64 p.set.c, .int .u64 p.set.d, .int .i64 p.lo, .int .i64 p.hi, .int .i64 p.gr, .slice ad xs.length cap] 28)) w1 := hb1.mono (by simp)
      obtain ⟨hbx0, hbl0, hlt00⟩ := box_facts hb1'
      have HP := hid hps
      have HB1 := hid hb1'
      have HBL0 := hid hbl0
      have q0 := hbx0.c9
      clear hb1 hb1' hbx0 hbl0 hps
      go_wp2_with fail
      go_loopw [3] (fun i wr => ∃ k : Nat, k ≤ xs.length ∧ i = .int .i64 k ∧ Hid (Re.typeds (xs.take k) = true) ∧ Below (w.heap.size + 1) (w.alloc (.cells #[.int .i64 p.op, .int .u64 p.set.a, .int .u64 p.set.b, .int .u64 p.set.c, .int .u64 p.set.d, .int .i64 p.lo, .int .i64 p.hi, .int .i64 p.gr, .slice ad xs.length cap] 28)) wr) (fun i _ => xs.length - (intOf i).toNat)
      case atStart => exact ⟨0, by omega, rfl, rfl, HB1.out⟩
      case round =>
        obtain ⟨k, hk, rfl, hz, hbw⟩ := hrel
        obtain ⟨hbx, hbl, hlt0⟩ := box_facts hbw
        have q := hbx.c9
        have HBW := hid hbw
        have HBL := hid hbl
        clear hbw hbx hbl
        by_cases hlt : k < xs.length
        · obtain ⟨b, o, p', ad', n', cap', rfl, HC, HI0, hbb⟩ := HAL.out.kid HBL.out k hlt
          have hsz1 := Re.size_get (xs := xs) (i := k) (a := xs[k]) (by simp [hlt])
          have HCA := hid (HIH.out xs[k] (by simp) wr _ (HI0.out.below HBL.out) (by omega))
          have HST := hid (Re.typeds_take xs k xs[k] (by simp [hlt]))
          have HSA := hid (Re.typeds_get xs k xs[k] (by simp [hlt]))
          generalize hbk : xs[k].typed = bk at HCA
          have HBK := hid hbk
          clear hbk
          go_wp2_with (first | (with_reducible (refine wpList_load_agg rfl 28 _ rfl b (o + (k * 9)) rfl _ _ HC.out Try.underlying28 rfl (size_re9 _ _ _ _ _ _ _ _ _) ?_)))
          refine HCA.out.mono ?_
          rintro e w2 ⟨rfl, hb2⟩
          have HB2 := hid hb2
          clear hb2 HCA
          cases bk
          · go_wp2_with fail
            go_ret
            refine ⟨ret_bool ?_, HBL.out.trans (HB2.out.mono (by omega))⟩
            rw [Re.typed, HSA.out HBK.out]; simp
          · go_wp2_with fail
            go_roundw
            case rel =>
              refine ⟨k + 1, by omega, by go_num, ?_, HBW.out.trans (HB2.out.mono (by omega))⟩
              show _ = _
              rw [HST.out, hz.out, HBK.out]; rfl
            case measure => simp [intOf]; omega
        · obtain rfl : k = xs.length := by omega
          go_wp2_with fail
          go_ret
          exact ⟨ret_bool (by have := hz.out; rw [List.take_length] at this; simp [Re.typed, this, HP.out]), HBL.out⟩

end Go.Proofs.Ythnpbopnpdlmnaa
