/- A list of calls that came in, and the law's few. -/
import Derived.Test.YtnncbbfbnccnbaaDo
namespace Go.Proofs.Ytnncbbfbnccnbaa
open Go.RowKit
attribute [local go_sem] gives givesUpon

/-- A slice of calls that came in. -/
def CallsAt (w : World) (a : Option Addr) (l : List CallD) : Prop := l = [] ∨ ∃ b o, a = some ⟨b, o, none⟩ ∧ b < w.heap.size ∧ ∀ i (h : i < l.length), CellsAt w b (o + i * 6) l[i].cells
theorem CallsAt.below {w w' : World} {a : Option Addr} {l : List CallD} (h : CallsAt w a l) (hb : RowKit.Below w.heap.size w w') : CallsAt w' a l := by
  rcases h with h | ⟨b, o, rfl, h1, h2⟩
  · exact .inl h
  · exact .inr ⟨b, o, rfl, Nat.lt_of_lt_of_le h1 hb.size, fun i hi j v hj => by rw [hb.cell (p := ⟨b, o + i * 6 + j, none⟩) h1]; exact h2 i hi j v hj⟩
theorem cells6 {w : World} {b f : Nat} {v0 v1 v2 v3 v4 v5 : Value} (h : CellsAt w b f [v0, v1, v2, v3, v4, v5]) :
    w.cell? ⟨b, f, none⟩ = some v0 ∧ w.cell? ⟨b, f + 1, none⟩ = some v1 ∧ w.cell? ⟨b, f + 2, none⟩ = some v2 ∧ w.cell? ⟨b, f + 3, none⟩ = some v3 ∧ w.cell? ⟨b, f + 4, none⟩ = some v4 ∧ w.cell? ⟨b, f + 5, none⟩ = some v5 :=
  ⟨by simpa using h 0 _ rfl, h 1 _ rfl, h 2 _ rfl, h 3 _ rfl, h 4 _ rfl, h 5 _ rfl⟩
theorem size_call (c : CallD) : (Try.prog.info? 41).map (·.size) = some c.cells.length := by
  show _ = some 6
  kernel_rfl
def fewOk (l : List CallD) : Prop := l.length ≤ 40 ∧ ∀ i (h : i < l.length), l[i].text.size ≤ 300 ∧ l[i].name.size ≤ 300
def FewPost (l : List CallD) (w : World) (e : Ending) (w' : World) : Prop := ∃ b, e = .returned (.bool b) ∧ w' = w ∧ (b = true → fewOk l)
set_option maxRecDepth 100000 in
set_option maxHeartbeats 4000000 in
theorem few_any (w : World) (a : Option Addr) (cap : Nat) (l : List CallD) (hl : CallsAt w a l) (hn : l.length ≤ 4611686018427387904) :
    Calls Try.prog 14 #[.slice a l.length cap] w (FewPost l w) := by
  have HL := hid hl
  clear hl
  go_enter Try.func14, Try.ntmps14
  go_wp2_with fail
  go_loopw [3] (fun i wr => ∃ k : Nat, k ≤ l.length ∧ i = .int .i64 k ∧ wr = w ∧ k ≤ 40 ∧ Hid (∀ i (h : i < l.length), i < k → l[i].text.size ≤ 300 ∧ l[i].name.size ≤ 300)) (fun i _ => l.length - (intOf i).toNat)
  case atStart => exact ⟨0, by omega, rfl, rfl, by omega, fun i h hi => absurd hi (by omega)⟩
  case round =>
    obtain ⟨k, hk, rfl, rfl, hk40, HK⟩ := hrel
    rcases Nat.lt_or_ge k l.length with hlt | hge
    · obtain ⟨b, o, rfl, hb, hc⟩ : ∃ b o, a = some ⟨b, o, none⟩ ∧ b < wr.heap.size ∧ ∀ i (h : i < l.length), CellsAt wr b (o + i * 6) l[i].cells := by
        rcases HL.out with h | h
        · rw [h] at hlt; cases hlt
        · exact h
      have q := cells6 (hc k hlt)
      have hthis : Hid (l[k].text.size ≤ 300 ∧ l[k].name.size ≤ 300 → ∀ i (h : i < l.length), i < k + 1 → l[i].text.size ≤ 300 ∧ l[i].name.size ≤ 300) := by
        intro h1 i h hi
        rcases Nat.lt_or_ge i k with h2 | h2
        · exact HK.out i h h2
        · obtain rfl : i = k := by omega
          exact h1
      generalize l[k] = c at *
      clear hc
      obtain ⟨op, nm, tx, st, n, kept⟩ := c
      simp only at q hthis
      rcases Nat.lt_or_ge k 40 with h40 | h40
      · rcases Nat.lt_or_ge 300 tx.size with ht | ht
        · go_wp2_with fail
          go_ret
          exact ⟨false, rfl, rfl, fun h => by cases h⟩
        rcases Nat.lt_or_ge 300 nm.size with hm | hm
        · go_wp2_with fail
          go_ret
          exact ⟨false, rfl, rfl, fun h => by cases h⟩
        · go_wp2_with fail
          refine ⟨⟨k + 1, by omega, by go_num, trivial, by omega, ?_⟩, by simp [intOf]; omega⟩
          exact hthis.out ⟨ht, hm⟩
      · go_wp2_with fail
        go_ret
        exact ⟨false, rfl, rfl, fun h => by cases h⟩
    · obtain rfl : k = l.length := by omega
      go_wp2_with fail
      go_ret
      exact ⟨true, rfl, rfl, fun _ => ⟨hk40, fun i h => HK.out i h h⟩⟩
end Go.Proofs.Ytnncbbfbnccnbaa
