/- The example of layer 11, plainly: the program of a|ab. -/
import Derived.Test.YtnjcfggadeakpaaG17
import Derived.Test.YtnjcfggadeakpaaG21
import Derived.Test.YtnjcfggadeakpaaG15
namespace Go.Proofs.Ytnjcfggadeakpaa
open Go.RowKit

/-- The example's tree: a|ab. -/
def E11 : Re := .mk (Pay.of 4) [byteRe 97, .mk (Pay.of 3) [byteRe 97, byteRe 98]]
def L6 : List Inst := [isplit 1 3, ⟨1, Cs.of [97], 0, 0⟩, ijump 5, ⟨1, Cs.of [97], 0, 0⟩, ⟨1, Cs.of [98], 0, 0⟩, Inst.of 6]
theorem E11_comp : E11.compiled = (L6, 0) := by decide
def e6 (k : Nat) : List Nat := if k = 0 then [3, 1] else if k = 2 then [5] else []
section
variable {m : Sim}
theorem inst6 (hL : m.L = L6) (k : Nat) : m.inst k = L6.getD k (Inst.of 0) := by unfold Sim.inst; rw [hL]
theorem eps6 (hL : m.L = L6) (i k : Nat) (hk : k < 6) : m.eps i k = e6 k := by
  have h : k = 0 ∨ k = 1 ∨ k = 2 ∨ k = 3 ∨ k = 4 ∨ k = 5 := by omega
  unfold Sim.eps
  rw [inst6 hL]
  rcases h with rfl | rfl | rfl | rfl | rfl | rfl <;> rfl
theorem reach6 (hL : m.L = L6) {i k : Nat} {S : Nat → Prop} (V : List Nat) (h0 : ∀ x, S x → x ∈ V) (h1 : ∀ x, x ∈ V → x < 6 ∧ ∀ j, j ∈ e6 x → j ∈ V) (h : m.Reach i S k) : k ∈ V :=
  Sim.Reach.least (V := fun k => k ∈ V) h0 (fun x hx j hj => by rw [eps6 hL i x (h1 x hx).1] at hj; exact (h1 x hx).2 j hj) h
theorem R6_0 (hL : m.L = L6) {f k : Nat} (h : m.R f 0 k) : k ∈ [0, 1, 3] :=
  reach6 hL [0, 1, 3] (fun x (hx : x = 0) => by subst hx; decide) (by decide) h
theorem R6_1 (hL : m.L = L6) {f k : Nat} (_hb : m.byte f = 97) (h : m.R f 1 k) : k ∈ [2, 4, 5] := by
  refine reach6 hL [2, 4, 5] (fun x ⟨j, h1, h2, h3⟩ => ?_) (by decide) h
  have hj := R6_0 hL h1
  subst h3
  have h4 : j = 0 ∨ j = 1 ∨ j = 3 := by simpa using hj
  rcases h4 with rfl | rfl | rfl
  · have h5 := h2.1
    rw [inst6 hL] at h5
    exact absurd h5 (by decide)
  · decide
  · decide
theorem R6_dead (hL : m.L = L6) {f : Nat} (hb : m.byte f = 120) : ∀ n k, ¬ m.R f (n + 1) k
  | 0, k, h => by
    obtain ⟨x, ⟨j, h1, h2, h3⟩, -⟩ := Sim.Reach.split h
    have hj := R6_0 hL h1
    have h4 : j = 0 ∨ j = 1 ∨ j = 3 := by simpa using hj
    have h5 := h2.1
    have h6 := h2.2
    rw [Nat.add_zero, hb] at h6
    rw [inst6 hL] at h5 h6
    rcases h4 with rfl | rfl | rfl
    · exact absurd h5 (by decide)
    · exact absurd h6 (by decide)
    · exact absurd h6 (by decide)
  | n + 1, k, h => by
    obtain ⟨x, ⟨j, h1, -⟩, -⟩ := Sim.Reach.split h
    exact R6_dead hL hb n j h1
theorem take6 (hL : m.L = L6) {i k : Nat} (h1 : (L6.getD k (Inst.of 0)).op = 1) (h2 : (L6.getD k (Inst.of 0)).set.has (m.byte i) = true) : m.takes i k := by
  unfold Sim.takes
  rw [inst6 hL]
  exact ⟨h1, h2⟩
theorem R6_a (hL : m.L = L6) {f : Nat} (hb : m.byte f = 97) : m.R f 1 4 ∧ m.R f 1 5 := by
  have h0 : m.R f 0 0 := .base rfl
  have h3 : m.R f 0 3 := .step h0 (by rw [eps6 hL f 0 (by decide)]; decide)
  have h1 : m.R f 0 1 := .step h0 (by rw [eps6 hL f 0 (by decide)]; decide)
  refine ⟨.base ⟨3, h3, take6 hL rfl (by rw [Nat.add_zero, hb]; decide), rfl⟩, ?_⟩
  exact .step (k := 2) (.base ⟨1, h1, take6 hL rfl (by rw [Nat.add_zero, hb]; decide), rfl⟩) (by rw [eps6 hL _ 2 (by decide)]; decide)
theorem R6_b (hL : m.L = L6) {f : Nat} (hb : m.byte f = 97) (hc : m.byte (f + 1) = 98) : m.R f 2 5 :=
  .base ⟨4, (R6_a hL hb).1, take6 hL rfl (by rw [hc]; decide), rfl⟩
theorem hit6 (hL : m.L = L6) {f : Nat} (hb : m.byte f = 97) (hc : m.byte (f + 1) = 98) : hit m f (f + 2) :=
  ⟨5, by rw [inst6 hL]; rfl, by rw [show f + 2 - f = 2 by omega]; exact R6_b hL hb hc⟩
end
def m2 : Sim := ⟨L6, false, [97, 98]⟩
def m3 : Sim := ⟨L6, false, [120, 97, 98]⟩
theorem long_m2 {b : Option Nat} (h : Long m2 0 3 b) : b = some 2 :=
  h.unique (b' := some 2) ⟨by omega, by omega, hit6 (m := m2) (f := 0) rfl rfl rfl, fun j h1 h2 => by omega⟩
theorem th_m2 {ts : List Nat} (h : IsTh m2 0 1 ts) : ts.length = 2 := by
  have hr : rightAll m2.L := by
    have := Re.compiled_right (t := E11) (by rw [E11_comp])
    rw [E11_comp] at this
    exact this
  have e : ts = [4, 5] := by
    refine asc_unique ts [4, 5] h.1 (by decide) fun k => ?_
    rw [h.2]
    constructor
    · rintro ⟨-, -, -, -, h1, h2⟩
      have h3 := R6_1 (m := m2) rfl (f := 0) rfl h2
      have h4 : k = 2 ∨ k = 4 ∨ k = 5 := by simpa using h3
      rcases h4 with rfl | rfl | rfl
      · have h5 : (3 : Int) = 1 ∨ (3 : Int) = 6 := h1
        omega
      · simp
      · simp
    · intro hk
      have h4 : k = 4 ∨ k = 5 := by simpa using hk
      refine ⟨hr, by decide, by decide, by decide, ?_, ?_⟩
      · rcases h4 with rfl | rfl
        · exact .inl rfl
        · exact .inr rfl
      · rcases h4 with rfl | rfl
        · exact (R6_a (m := m2) rfl (f := 0) rfl).1
        · exact (R6_a (m := m2) rfl (f := 0) rfl).2
  rw [e]
  rfl
theorem best_m3 {b : Option (Nat × Nat)} (h : Best m3 0 4 b) : b = some (1, 3) := by
  refine h.unique (b' := some (1, 3)) ⟨by omega, by omega, by omega, hit6 (m := m3) (f := 1) rfl rfl rfl, fun j h1 h2 => by omega, fun f j h1 h2 h3 h4 hh => ?_⟩
  obtain rfl : f = 0 := by omega
  obtain ⟨k, hk, hr⟩ := hh
  match j, hr with
  | 0, hr =>
    have h5 := R6_0 (m := m3) rfl hr
    have h6 : k = 0 ∨ k = 1 ∨ k = 3 := by simpa using h5
    rcases h6 with rfl | rfl | rfl
    · exact absurd (show (2 : Int) = 6 from hk) (by decide)
    · exact absurd (show (1 : Int) = 6 from hk) (by decide)
    · exact absurd (show (1 : Int) = 6 from hk) (by decide)
  | j + 1, hr => exact R6_dead (m := m3) rfl (f := 0) rfl j k hr
end Go.Proofs.Ytnjcfggadeakpaa

/- The keep functions: all, and Search's closure. -/
namespace Go.Proofs.Ytnjcfggadeakpaa
open Go.RowKit
attribute [local go_sem] gives givesUpon

set_option maxHeartbeats 1000000 in
theorem all_any (k f : Nat) (w : World) :
    Calls Try.prog 25 #[.agg #[.int .i64 k, .int .i64 f]] w fun e w' => e = .returned (.bool true) ∧ Below w.heap.size w w' := by
  go_enter Try.func25, Try.ntmps25
  go_wp2
  go_ret
  exact ⟨rfl, (Below.refl _ _).alloc (Nat.le_refl _) _⟩
/-- Where Search keeps what it found. -/
structure BestAt (w : World) (fp bp : Nat) (b : Option (Nat × Nat)) : Prop where
  f : Row w fp [.bool b.isSome] 4
  b : Row w bp [.int .i64 (b.getD (0, 0)).1, .int .i64 (b.getD (0, 0)).2] 28
theorem BestAt.below {w w' : World} {fp bp : Nat} {b : Option (Nat × Nat)} (h : BestAt w fp bp b) (hb : Below w.heap.size w w') : BestAt w' fp bp b := ⟨h.f.below hb h.f.lt, h.b.below hb h.b.lt⟩
theorem BestAt.but {w w' : World} {fp bp : Nat} {b : Option (Nat × Nat)} {S : List Nat} (h : BestAt w fp bp b) (hb : But S w w') (h1 : fp ∉ S) (h2 : bp ∉ S) : BestAt w' fp bp b := ⟨(hb.block fp h.f.lt h1).trans h.f, (hb.block bp h.b.lt h2).trans h.b⟩
/-- Does Search's closure keep a thread? -/
def kept (b : Option (Nat × Nat)) (t : Nat × Nat) : Bool := !b.isSome || decide (t.2 ≤ (b.getD (0, 0)).1)
set_option maxHeartbeats 1000000 in
theorem keep_any (t : Nat × Nat) (fp bp : Nat) (b : Option (Nat × Nat)) (w : World) (h : BestAt w fp bp b) :
    Calls Try.prog 23 #[.agg #[.int .i64 t.1, .int .i64 t.2], .pointer (some ⟨fp, 0, none⟩), .pointer (some ⟨bp, 0, none⟩)] w fun e w' => e = .returned (.bool (kept b t)) ∧ Below w.heap.size w w' := by
  obtain ⟨k, f⟩ := t
  have HG : Hid (Below w.heap.size w (w.alloc (.cells #[.int .i64 k, .int .i64 f] 65)) ∧ Row (w.alloc (.cells #[.int .i64 k, .int .i64 f] 65)) w.heap.size [.int .i64 k, .int .i64 f] 65) := ⟨Grow.alloc w _, Row.at w [.int .i64 k, .int .i64 f] _⟩
  match b, h with
  | none, h =>
    have hf := h.f.below HG.out.1 h.f.lt
    have q := h.f.c1
    have z := h.f.lt
    have e : kept none (k, f) = true := rfl
    rw [e]
    clear e
    clear h
    go_enter Try.func23, Try.ntmps23
    go_upto_region 1 with fail
    generalize w.alloc (.cells #[.int .i64 k, .int .i64 f] 65) = w1 at *
    have q1 := hf.c1
    go_wp2_with fail
    all_goals (try go_ret)
    all_goals exact ⟨rfl, HG.out.1⟩
  | some (F, E), h =>
    have hf := h.f.below HG.out.1 h.f.lt
    have hb := h.b.below HG.out.1 h.b.lt
    have HKE : Hid (kept (some (F, E)) (k, f) = decide (f ≤ F)) := rfl
    generalize kept (some (F, E)) (k, f) = ans at *
    clear h
    go_enter Try.func23, Try.ntmps23
    go_upto_region 1 with fail
    have q2 : (w.alloc (.cells #[.int .i64 k, .int .i64 f] 65)).cell? ⟨w.heap.size, 1, none⟩ = some (.int .i64 f) := HG.out.2.cell 1
    generalize w.alloc (.cells #[.int .i64 k, .int .i64 f] 65) = w1 at *
    have q1 := hf.c1
    have q3 : w1.cell? ⟨bp, 0, none⟩ = some (.int .i64 F) := hb.cell 0
    go_wp2_with fail
    all_goals (try go_ret)
    all_goals refine ⟨ret_bool ?_, HG.out.1⟩
    all_goals (rw [HKE.out]; try exact Bool.eq_iff_iff.2 (by simp))
end Go.Proofs.Ytnjcfggadeakpaa
