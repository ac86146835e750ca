/- The law's maker: next. -/
import Derived.Test.YtibfnmkeghkdpaaLenLaw
import Derived.Test.YtibfnmkeghkdpaaLawCC
import Derived.Test.YtibfnmkeghkdpaaCs2
import Derived.BigQuiet
namespace Go.Proofs.Ytibfnmkeghkdpaa
open Go.RowKit
attribute [local go_sem] gives givesUpon

/-- The choices lie at the address. -/
def ChAt (w : World) (ca : Option Addr) (cn : Nat) : Prop := cn = 0 ∨ ∃ b o, ca = some ⟨b, o, none⟩ ∧ ∀ i, i < cn → ∃ c : Int, w.cell? ⟨b, o + i, none⟩ = some (.int .i64 c) ∧ I64 c
theorem ChAt.below {w x : World} {ca : Option Addr} {cn : Nat} (h : ChAt w ca cn) (hb : Below w.heap.size w x) : ChAt x ca cn := by
  rcases h with h | ⟨b, o, h1, h2⟩
  · exact .inl h
  · rcases Nat.eq_zero_or_pos cn with h0 | h0
    · exact .inl h0
    · refine .inr ⟨b, o, h1, fun i hi => ?_⟩
      obtain ⟨c, h3, h4⟩ := h2 i hi
      have hlt : b < w.heap.size := CellsAt.block (cs := [.int .i64 c]) (o := o + i) (fun j v hj => by
        cases j with
        | zero => rw [Nat.add_zero, h3]; exact hj
        | succ j => simp at hj) (by simp)
      exact ⟨c, by rw [World.cell?_of_block (hb.block b hlt)]; exact h3, h4⟩
theorem Row.c5 {w : World} {B : Nat} {a b c d e : Value} {T : TypeId} (h : Row w B [a, b, c, d, e] T) :
    (w.cell? ⟨B, 0, none⟩ = some a ∧ w.cell? ⟨B, 1, none⟩ = some b ∧ w.cell? ⟨B, 2, none⟩ = some c ∧ w.cell? ⟨B, 3, none⟩ = some d ∧ w.cell? ⟨B, 4, none⟩ = some e) ∧ (w.frozen? ⟨B, 0, none⟩ = false ∧ w.frozen? ⟨B, 1, none⟩ = false ∧ w.frozen? ⟨B, 2, none⟩ = false ∧ w.frozen? ⟨B, 3, none⟩ = false ∧ w.frozen? ⟨B, 4, none⟩ = false) :=
  ⟨⟨h.cell 0, h.cell 1, h.cell 2, h.cell 3, h.cell 4⟩, h.free 0, h.free 1, h.free 2, h.free 3, h.free 4⟩

set_option maxRecDepth 100000 in
set_option maxHeartbeats 4000000 in
theorem next_any (MB : Nat) (ca : Option Addr) (cn cc : Nat) (a : Int) (v2 v3 v4 : Value) (n : Int) (w : World) (hr : Row w MB [.slice ca cn cc, .int .i64 a, v2, v3, v4] 46) (hc : ChAt w ca cn) (ha : 0 ≤ a ∧ a ≤ cn) (hn : 0 ≤ n ∧ n ≤ 1048576) (hcn : cn ≤ 1048576) :
    Calls Try.prog 51 #[.pointer (some ⟨MB, 0, none⟩), .int .i64 n] w fun e w' => ∃ r a' : Int, e = .returned (.int .i64 r) ∧ 0 ≤ r ∧ (0 < n → r < n) ∧ (0 ≤ a' ∧ a' ≤ cn) ∧ But [MB] w w' ∧ Row w' MB [.slice ca cn cc, .int .i64 a', v2, v3, v4] 46 := by
  have q := hr.c5
  have z := hr.lt
  have HR := hid hr
  have HN := hid hn
  have HA := hid ha
  obtain ⟨ha1, ha2⟩ := ha
  obtain ⟨hn1, hn2⟩ := hn
  have hB := hid (fun k : Nat => below_drewN (Below.refl w.heap.size w) k)
  have hRk := hid (fun k : Nat => HR.out.below (hB.out k) z)
  clear hr
  rcases (show decide ((cn : Int) ≤ a) = true ∨ decide ((cn : Int) ≤ a) = false by cases decide ((cn : Int) ≤ a) <;> simp) with d1 | d1
  · go_enter Try.func51, Try.ntmps51
    go_wp2_with fail
    go_quiet (fail)
    go_wp2_with fail
    all_goals go_ret
    all_goals exact ⟨0, a, rfl, Int.le_refl 0, fun h => h, HA.out, But.of_below (hB.out _), hRk.out _⟩
  · rcases (show decide (n < 1) = true ∨ decide (n < 1) = false by cases decide (n < 1) <;> simp) with d2 | d2
    · go_enter Try.func51, Try.ntmps51
      go_wp2_with fail
      go_quiet (fail)
      go_wp2_with fail
      all_goals go_ret
      all_goals exact ⟨0, a, rfl, Int.le_refl 0, fun h => h, HA.out, But.of_below (hB.out _), hRk.out _⟩
    · have hlt : a < cn := by simpa using d1
      have hn0 : 1 ≤ n := by simpa using d2
      rcases hc with hc | ⟨b, o, rfl, hc⟩
      · omega
      obtain ⟨c, hc1, hc2, hc3⟩ := hc a.toNat (by omega)
      have e0 : (n == 0) = false := by simp; omega
      have t1 := Int.tmod_lt_of_pos c (show 0 < n by omega)
      have t2 := Int.lt_tmod_of_pos c (show 0 < n by omega)
      have HT := hid (And.intro t1 t2)
      clear t1 t2
      rcases (show decide (c.tmod n < 0) = true ∨ decide (c.tmod n < 0) = false by cases decide (c.tmod n < 0) <;> simp) with d3 | d3
      · have HD := hid (of_decide_eq_true d3)
        go_enter Try.func51, Try.ntmps51
        go_wp2_with fail
        go_quiet (fail)
        go_wp2_with fail
        go_quiet (fail)
        go_wp2_with fail
        all_goals go_ret
        all_goals
          have h1 := HT.out
          have h2 := HD.out
          have e : wrap64 (-c.tmod n) = -c.tmod n := IntWalk.wrap64_in _ (by omega)
          refine ⟨-c.tmod n, a + 1, ret_int e, by omega, fun _ => by omega, by omega, (But.of_below (hB.out _)).setCell (.inl (by simp)) _, (hRk.out _).set 1 _⟩
      · have HD := hid (of_decide_eq_false d3)
        go_enter Try.func51, Try.ntmps51
        go_wp2_with fail
        go_quiet (fail)
        go_wp2_with fail
        go_quiet (fail)
        go_wp2_with fail
        all_goals go_ret
        all_goals
          have h1 := HT.out
          have h2 := HD.out
          refine ⟨c.tmod n, a + 1, rfl, by omega, fun _ => by omega, by omega, (But.of_below (hB.out _)).setCell (.inl (by simp)) _, (hRk.out _).set 1 _⟩
end Go.Proofs.Ytibfnmkeghkdpaa
