/- Laws of a simulation, plainly: a single set; a string before; the example. -/
import Derived.Test.YtnjcfggadeakpaaG16
import Derived.Test.YtnjcfggadeakpaaG10
namespace Go.Proofs.Ytnjcfggadeakpaa
open Go.RowKit

/-- The program of a single set. -/
def oneSet (a : Cs) : List Inst := [⟨1, a, 0, 0⟩, Inst.of 6]
section
variable {m : Sim} {a : Cs}
theorem one0 (hL : m.L = oneSet a) : m.inst 0 = ⟨1, a, 0, 0⟩ := by unfold Sim.inst; rw [hL]; rfl
theorem one1 (hL : m.L = oneSet a) : m.inst 1 = Inst.of 6 := by unfold Sim.inst; rw [hL]; rfl
theorem one_eps (hL : m.L = oneSet a) (i k : Nat) (hk : k = 0 ∨ k = 1) : m.eps i k = [] := by
  refine Sim.leaf_eps ?_
  unfold Sim.leaf
  rcases hk with rfl | rfl
  · rw [one0 hL]; exact .inl rfl
  · rw [one1 hL]; exact .inr rfl
theorem one_reach (hL : m.L = oneSet a) {i k x : Nat} (hx : x = 0 ∨ x = 1) (h : m.Reach i (· = x) k) : k = x := by
  refine Sim.Reach.least (V := fun k => k = x) (fun _ h => h) (fun k hk j hj => ?_) h
  subst hk
  rw [one_eps hL i _ hx] at hj
  cases hj
theorem one_R0 (hL : m.L = oneSet a) {f k : Nat} (h : m.R f 0 k) : k = 0 := one_reach hL (.inl rfl) h
theorem one_R1 (hL : m.L = oneSet a) {f k : Nat} (h : m.R f 1 k) : k = 1 ∧ a.has (m.byte f) = true := by
  obtain ⟨x, ⟨j, h1, h2, rfl⟩, h3⟩ := Sim.Reach.split h
  have e := one_R0 hL h1
  subst e
  have h4 := one_reach hL (.inr rfl) h3
  have h5 := h2.2
  rw [one0 hL] at h5
  exact ⟨h4, h5⟩
theorem one_R2 (hL : m.L = oneSet a) {f : Nat} : ∀ (n k : Nat), ¬ m.R f (n + 2) k
  | 0, k, h => by
    obtain ⟨x, ⟨j, h1, h2, rfl⟩, h3⟩ := Sim.Reach.split h
    have e := (one_R1 hL h1).1
    subst e
    have h5 := h2.1
    rw [one1 hL] at h5
    exact absurd h5 (by decide)
  | n + 1, k, h => by
    obtain ⟨x, ⟨j, h1, h2, rfl⟩, h3⟩ := Sim.Reach.split h
    exact one_R2 hL n j h1
theorem one_hit (hL : m.L = oneSet a) {f j : Nat} (hj : f ≤ j) : hit m f j ↔ j = f + 1 ∧ a.has (m.byte f) = true := by
  constructor
  · rintro ⟨k, h1, h2⟩
    match e : j - f, h2 with
    | 0, h2 =>
      have := one_R0 hL h2
      subst this
      rw [one0 hL] at h1
      have h3 : (1 : Int) = 6 := h1
      omega
    | 1, h2 => exact ⟨by omega, (one_R1 hL h2).2⟩
    | n + 2, h2 => exact absurd h2 (one_R2 hL n k)
  · rintro ⟨rfl, h⟩
    refine ⟨1, by rw [one1 hL]; rfl, ?_⟩
    rw [show f + 1 - f = 0 + 1 by omega]
    refine .base ⟨0, .base rfl, ⟨by rw [one0 hL], ?_⟩, rfl⟩
    rw [one0 hL]
    exact h
theorem one_long (hL : m.L = oneSet a) {f : Nat} {b : Option Nat} (_hf : f ≤ m.s.length) (h : Long m f (m.s.length + 1) b) : b = if f < m.s.length ∧ a.has (m.byte f) = true then some (f + 1) else none := by
  refine h.unique ?_
  split
  · rename_i h1
    refine ⟨by omega, by omega, (one_hit hL (by omega)).2 ⟨rfl, h1.2⟩, fun j h2 h3 h4 => ?_⟩
    have := ((one_hit hL (by omega)).1 h4).1
    omega
  · rename_i h1
    intro j h2 h3 h4
    obtain ⟨e, h5⟩ := (one_hit hL h2).1 h4
    exact h1 ⟨by omega, h5⟩
end
/-- Another string with more before it. -/
structure Before (m m' : Sim) (d : Nat) : Prop where
  L : m'.L = m.L
  lines : m'.lines = m.lines
  len : m'.s.length = d + m.s.length
  byte : ∀ i, m'.byte (d + i) = m.byte i
  no : ∀ k, (m.inst k).op ≠ 4
theorem before_of {L : List Inst} {lines : Bool} {s b : List UInt8} (h : ∀ k (h : k < L.length), L[k].op ≠ 4) : Before ⟨L, lines, s⟩ ⟨L, lines, b ++ s⟩ b.length := by
  refine ⟨rfl, rfl, List.length_append, fun i => ?_, fun k => ?_⟩
  · show ((b ++ s).getD (b.length + i) 0).toNat = (s.getD i 0).toNat
    rw [List.getD_eq_getElem?_getD, List.getD_eq_getElem?_getD, List.getElem?_append_right (by omega)]
    congr 3
    omega
  · by_cases hk : k < L.length
    · rw [Sim.inst_eq (m := ⟨L, lines, s⟩) hk]; exact h k hk
    · unfold Sim.inst
      rw [List.getD_eq_getElem?_getD, List.getElem?_eq_none (by show L.length ≤ k; omega)]
      exact (by decide : ¬ (Inst.of 0).op = 4)
section
variable {m m' : Sim} {d : Nat}
theorem Before.inst (h : Before m m' d) (k : Nat) : m'.inst k = m.inst k := by unfold Sim.inst; rw [h.L]
theorem Before.eps (h : Before m m' d) (i k : Nat) : m'.eps (d + i) k = m.eps i k := by
  unfold Sim.eps
  rw [h.inst]
  have e : m'.ends (d + i) = m.ends i := by
    unfold Sim.ends
    rw [h.lines, h.byte, h.len]
    have : (d + i == d + m.s.length) = (i == m.s.length) := by rw [Bool.eq_iff_iff]; simp
    rw [this]
  rw [e, if_neg (h.no k), if_neg (h.no k)]
theorem Before.reach (h : Before m m' d) (i : Nat) {S : Nat → Prop} {k : Nat} : m'.Reach (d + i) S k ↔ m.Reach i S k := by
  constructor
  · exact Sim.Reach.least (V := m.Reach i S) (fun _ h0 => .base h0) (fun k hk j hj => .step hk (by rw [← h.eps]; exact hj))
  · exact Sim.Reach.least (V := m'.Reach (d + i) S) (fun _ h0 => .base h0) (fun k hk j hj => .step hk (by rw [h.eps]; exact hj))
theorem Before.takes (h : Before m m' d) (i k : Nat) : m'.takes (d + i) k ↔ m.takes i k := by
  unfold Sim.takes
  rw [h.inst, h.byte]
theorem Before.R (h : Before m m' d) (f : Nat) : ∀ (n k : Nat), m'.R (d + f) n k ↔ m.R f n k
  | 0, k => h.reach f
  | n + 1, k => by
    have ih := Before.R h f n
    show m'.Reach (d + f + (n + 1)) (fun k => ∃ j, m'.R (d + f) n j ∧ m'.takes (d + f + n) j ∧ k = j + 1) k ↔ m.Reach (f + (n + 1)) (fun k => ∃ j, m.R f n j ∧ m.takes (f + n) j ∧ k = j + 1) k
    rw [show d + f + (n + 1) = d + (f + (n + 1)) by omega, show d + f + n = d + (f + n) by omega, h.reach]
    constructor
    · exact Sim.Reach.mono fun k ⟨j, h1, h2, h3⟩ => ⟨j, (ih j).1 h1, (h.takes _ j).1 h2, h3⟩
    · exact Sim.Reach.mono fun k ⟨j, h1, h2, h3⟩ => ⟨j, (ih j).2 h1, (h.takes _ j).2 h2, h3⟩
theorem Before.hit (h : Before m m' d) {f j : Nat} : hit m' (d + f) (d + j) ↔ hit m f j := by
  unfold Go.Proofs.Ytnjcfggadeakpaa.hit
  rw [show d + j - (d + f) = j - f by omega]
  constructor
  · rintro ⟨k, h1, h2⟩
    exact ⟨k, by rw [← h.inst]; exact h1, (h.R _ _ _).1 h2⟩
  · rintro ⟨k, h1, h2⟩
    exact ⟨k, by rw [h.inst]; exact h1, (h.R _ _ _).2 h2⟩
theorem Before.long (h : Before m m' d) {f : Nat} {b : Option Nat} (hb : Long m f (m.s.length + 1) b) : Long m' (d + f) (m'.s.length + 1) (b.map (d + ·)) := by
  rw [h.len]
  match b, hb with
  | none, hb =>
    show ∀ j, d + f ≤ j → j < d + m.s.length + 1 → ¬ Go.Proofs.Ytnjcfggadeakpaa.hit m' (d + f) j
    intro j h1 h2 h3
    obtain ⟨j', rfl⟩ : ∃ j', j = d + j' := ⟨j - d, by omega⟩
    exact hb j' (by omega) (by omega) (h.hit.1 h3)
  | some E, hb =>
    obtain ⟨h1, h2, h3, h4⟩ := hb
    show d + f ≤ d + E ∧ d + E < d + m.s.length + 1 ∧ Go.Proofs.Ytnjcfggadeakpaa.hit m' (d + f) (d + E) ∧ ∀ j, d + E < j → j < d + m.s.length + 1 → ¬ Go.Proofs.Ytnjcfggadeakpaa.hit m' (d + f) j
    refine ⟨by omega, by omega, h.hit.2 h3, fun j h5 h6 h7 => ?_⟩
    obtain ⟨j', rfl⟩ : ∃ j', j = d + j' := ⟨j - d, by omega⟩
    exact h4 j' (by omega) (by omega) (h.hit.1 h7)
end
/-- A later offset, up to the beginning of the match. -/
theorem Best.later {m : Sim} {f n F E i : Nat} (h : Best m f n (some (F, E))) (h1 : f ≤ i) (h2 : i ≤ F) : Best m i n (some (F, E)) :=
  ⟨h2, h.2.1, h.2.2.1, h.2.2.2.1, h.2.2.2.2.1, fun g j h3 h4 h5 h6 => h.2.2.2.2.2 g j (by omega) h4 h5 h6⟩
end Go.Proofs.Ytnjcfggadeakpaa

/- The reference's Check of a tree: the error of the tree. -/
namespace Go.Proofs.Ytnjcfggadeakpaa
open Go.RowKit

theorem Re.err_some (t : Re) : t.err = if t.typed = false then 7 else if (t.ranged 0).isSome = false then 2 else if (t.named []).isSome = false then 4 else if 600 < t.size ∨ 9 < t.groups ∨ 32 < t.levels then 3 else 0 := by
  unfold Re.err
  cases t.ranged 0 <;> cases t.named [] <;> rfl

set_option maxRecDepth 100000 in
set_option maxHeartbeats 4000000 in
theorem CheckRef_any (t : Re) (w : World) (cs : List Value) (hIn : t.In w cs) (hsz : t.size ≤ 1048576) :
    Calls Try.prog 29 #[.agg cs.toArray] w fun e w' => e = .returned (.int .i64 t.err) ∧ Below w.heap.size w w' := by
  cases t with
  | mk p xs =>
    have hIn' := hIn
    rw [Re.In] at hIn
    obtain ⟨ad, cap, rfl, _⟩ := hIn
    simp only [Pay.cells] at hIn' ⊢
    have HI := hid hIn'
    have hgl := Re.count_le (· == 6) (.mk p xs)
    have hll := Re.levels_le (.mk p xs)
    have HGL := hid hgl
    have HLL := hid hll
    have HSZ := hid hsz
    have HER := hid (Re.err_some (.mk p xs))
    clear hIn' hgl hll
    have HB0 := hid ((Below.refl _ w).alloc (Nat.le_refl _) (.cells #[.int .i64 p.op, .int .u64 p.set.a, .int .u64 p.set.b, .int .u64 p.set.c, .int .u64 p.set.d, .int .i64 p.lo, .int .i64 p.hi, .int .i64 p.gr, .slice ad xs.length cap] 55))
    have HC1 := hid (typedRef_any (.mk p xs) _ _ (HI.out.below HB0.out) HSZ.out)
    go_enter Try.func29, Try.ntmps29
    go_wp2_with fail
    refine HC1.out.mono ?_
    rintro e w1 ⟨rfl, hb1⟩
    obtain ⟨hbx, hbl, hlt0⟩ := box_facts (w := w) (p := p) (sl := .slice ad xs.length cap) (hb1.mono (by simp))
    have q := hbx.c9
    have HB := hid hbl
    have HHX := hid hbx
    clear hb1 hbl HC1
    cases ht : (Re.mk p xs).typed
    · rw [ht] at HER
      have HT := hid ht
      clear ht hbx
      go_wp2_with fail
      go_ret
      exact ⟨ret_int (by rw [HER.out]; simp), HB.out⟩
    · rw [ht] at HER
      have HT := hid ht
      clear ht
      have HC2 := hid (rangedRef_any (.mk p xs) w1 _ 0 (HI.out.below HB.out) (by have := HSZ.out; simp only [Nat.zero_add]; omega))
      clear hbx
      go_wp2_with fail
      refine HC2.out.mono ?_
      rintro e w2 ⟨hb2, m, rfl, hm⟩
      have hbx := HHX.out.below hb2 (by omega)
      have hbl := HB.out.trans (hb2.mono (by omega))
      have hlt2 : w.heap.size < w2.heap.size := by have := hb2.size; omega
      have q2 := hbx.c9
      have HB2 := hid hbl
      have HHX2 := hid hbx
      clear hb2 hbl HC2 hm hbx q
      cases hr : ((Re.mk p xs).ranged 0).isSome
      · rw [hr] at HER
        clear hr
        go_wp2_with fail
        go_ret
        exact ⟨ret_int (by rw [HER.out]; simp), HB2.out⟩
      · rw [hr] at HER
        clear hr
        have HC3 := hid (namedRef_any w.heap.size w (Nat.le_refl _) (.mk p xs) w2 _ (.slice none 0 0) [] HI.out HB2.out (by omega) (World.ownsRow_nil _ _ _ _) (by have := HSZ.out; simp; omega))
        go_wp2_with fail
        refine HC3.out.mono ?_
        rintro e w3 ⟨hb3, a3, n3, c3, rfl, hm3⟩
        have hb3' : Below w2.heap.size w2 w3 := hb3.below (Nat.le_refl _) (fun k hk => by simp [own, Value.ownBlock] at hk)
        have hbx := HHX2.out.below hb3' (by omega)
        have hbl := HB2.out.trans (hb3'.mono (by omega))
        have hlt3 : w.heap.size < w3.heap.size := by have := hb3'.size; omega
        have q3 := hbx.c9
        have HB3 := hid hbl
        have HHX3 := hid hbx
        clear hb3 hb3' hbl HC3 hm3 hbx q2
        cases hr : ((Re.mk p xs).named []).isSome
        · rw [hr] at HER
          clear hr
          go_wp2_with fail
          go_ret
          exact ⟨ret_int (by rw [HER.out]; simp), HB3.out⟩
        · rw [hr] at HER
          clear hr
          have HC4 := hid (SizeRef_any (.mk p xs) w3 _ (HI.out.below HB3.out) HSZ.out)
          go_wp2_with fail
          refine HC4.out.mono ?_
          rintro e w4 ⟨rfl, hb4⟩
          have hbx := HHX3.out.below hb4 (by omega)
          have hbl := HB3.out.trans (hb4.mono (by omega))
          have hlt4 : w.heap.size < w4.heap.size := by have := hb4.size; omega
          have q4 := hbx.c9
          have HB4 := hid hbl
          have HHX4 := hid hbx
          clear hb4 hbl HC4 hbx q3
          have HC5 := hid (GroupsRef_any (.mk p xs) w4 _ (HI.out.below HB4.out) HSZ.out)
          by_cases h600 : 600 < (Re.mk p xs).size
          · have d600 : decide ((600 : Int) < ((Re.mk p xs).size : Int)) = true := by rw [decide_eq_true_eq]; omega
            have H600 := hid h600
            clear h600
            go_wp2_with fail
            go_ret
            exact ⟨ret_int (by rw [HER.out]; simp [H600.out]), HB4.out⟩
          · have d600 : decide ((600 : Int) < ((Re.mk p xs).size : Int)) = false := by rw [decide_eq_false_iff_not]; omega
            have H600 := hid h600
            clear h600
            go_wp2_with fail
            refine HC5.out.mono ?_
            rintro e w5 ⟨rfl, hb5⟩
            have hbx := HHX4.out.below hb5 (by omega)
            have hbl := HB4.out.trans (hb5.mono (by omega))
            have hlt5 : w.heap.size < w5.heap.size := by have := hb5.size; omega
            have q5 := hbx.c9
            have HB5 := hid hbl
            have HHX5 := hid hbx
            clear hb5 hbl HC5 hbx q4 d600
            have HC6 := hid (levelsRef_any (.mk p xs) w5 _ (HI.out.below HB5.out) HSZ.out)
            by_cases h9 : 9 < (Re.mk p xs).groups
            · have d9 : decide ((9 : Int) < ((Re.mk p xs).groups : Int)) = true := by rw [decide_eq_true_eq]; omega
              have H9 := hid h9
              clear h9
              go_wp2_with fail
              go_ret
              exact ⟨ret_int (by rw [HER.out]; simp [H9.out]), HB5.out⟩
            · have d9 : decide ((9 : Int) < ((Re.mk p xs).groups : Int)) = false := by rw [decide_eq_false_iff_not]; omega
              have H9 := hid h9
              clear h9
              go_wp2_with fail
              refine HC6.out.mono ?_
              rintro e w6 ⟨rfl, hb6⟩
              have hbl := HB5.out.trans (hb6.mono (by omega))
              have HB6 := hid hbl
              clear hb6 hbl HC6 d9
              by_cases h32 : 32 < (Re.mk p xs).levels
              · have d32 : decide ((32 : Int) < ((Re.mk p xs).levels : Int)) = true := by rw [decide_eq_true_eq]; omega
                have H32 := hid h32
                clear h32
                go_wp2_with fail
                go_ret
                exact ⟨ret_int (by rw [HER.out]; simp [H32.out]), HB6.out⟩
              · have d32 : decide ((32 : Int) < ((Re.mk p xs).levels : Int)) = false := by rw [decide_eq_false_iff_not]; omega
                have H32 := hid h32
                clear h32
                go_wp2_with fail
                go_ret
                exact ⟨ret_int (by rw [HER.out]; simp [H32.out, H9.out, H600.out]), HB6.out⟩
end Go.Proofs.Ytnjcfggadeakpaa
