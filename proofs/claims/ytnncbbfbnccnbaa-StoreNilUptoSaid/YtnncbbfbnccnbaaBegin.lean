/- New, begin, Used, Peak of the program's store. -/
import Derived.Test.YtnncbbfbnccnbaaStore
import Derived.Test.YtnncbbfbnccnbaaInv
import Derived.BigQuiet
namespace Go.Proofs.Ytnncbbfbnccnbaa
open Go.RowKit
attribute [local go_sem] gives givesUpon

theorem Row.six {w : World} {B : Nat} {a b c d e f : Value} {T : TypeId} (h : Row w B [a, b, c, d, e, f] T) :
    (w.cell? ⟨B, 0, none⟩ = some a ∧ w.cell? ⟨B, 1, none⟩ = some b ∧ w.cell? ⟨B, 2, none⟩ = some c ∧ w.cell? ⟨B, 3, none⟩ = some d ∧ w.cell? ⟨B, 4, none⟩ = some e ∧ w.cell? ⟨B, 5, none⟩ = some f) ∧
    (w.frozen? ⟨B, 0, none⟩ = false ∧ w.frozen? ⟨B, 1, none⟩ = false ∧ w.frozen? ⟨B, 2, none⟩ = false ∧ w.frozen? ⟨B, 3, none⟩ = false ∧ w.frozen? ⟨B, 4, none⟩ = false ∧ w.frozen? ⟨B, 5, none⟩ = false) :=
  ⟨⟨h.cell 0, h.cell 1, h.cell 2, h.cell 3, h.cell 4, h.cell 5⟩, h.free 0, h.free 1, h.free 2, h.free 3, h.free 4, h.free 5⟩
theorem Row.two {w : World} {B : Nat} {a b : Value} {T : TypeId} (h : Row w B [a, b] T) :
    (w.cell? ⟨B, 0, none⟩ = some a ∧ w.cell? ⟨B, 1, none⟩ = some b) ∧ (w.frozen? ⟨B, 0, none⟩ = false ∧ w.frozen? ⟨B, 1, none⟩ = false) :=
  ⟨⟨h.cell 0, h.cell 1⟩, h.free 0, h.free 1⟩
theorem St.At.six {w : World} {B base : Nat} {s : St} (h : s.At w B base) :
    (w.cell? ⟨B, 0, none⟩ = some (.int .i64 s.limit) ∧ w.cell? ⟨B, 1, none⟩ = some (.int .i64 s.used) ∧ w.cell? ⟨B, 2, none⟩ = some (.int .i64 s.peak) ∧ w.cell? ⟨B, 3, none⟩ = some (.map (some s.mp)) ∧ w.cell? ⟨B, 4, none⟩ = some (.bool s.crash) ∧ w.cell? ⟨B, 5, none⟩ = some (.int .i64 s.count)) ∧
    (w.frozen? ⟨B, 0, none⟩ = false ∧ w.frozen? ⟨B, 1, none⟩ = false ∧ w.frozen? ⟨B, 2, none⟩ = false ∧ w.frozen? ⟨B, 3, none⟩ = false ∧ w.frozen? ⟨B, 4, none⟩ = false ∧ w.frozen? ⟨B, 5, none⟩ = false) := h.row.six

/-- The state behind the beginning of an operation. -/
def St.began (s : St) : St := if s.crash = true then s else if s.count = 1 then { s with crash := true, count := 0 } else if 1 < s.count then { s with count := s.count - 1 } else s

set_option maxHeartbeats 1000000 in
theorem Used_any (w : World) (B base : Nat) (s : St) (h : s.At w B base) : Calls Try.prog 20 #[.pointer (some ⟨B, 0, none⟩)] w fun e w' => e = .returned (.int .i64 s.used) ∧ w' = w := by
  have q := h.six
  go_enter Try.func20, Try.ntmps20
  go_wp2_with fail
  all_goals go_ret
  all_goals exact ⟨rfl, rfl⟩
set_option maxHeartbeats 1000000 in
theorem Peak_any (w : World) (B base : Nat) (s : St) (h : s.At w B base) : Calls Try.prog 21 #[.pointer (some ⟨B, 0, none⟩)] w fun e w' => e = .returned (.int .i64 s.peak) ∧ w' = w := by
  have q := h.six
  go_enter Try.func21, Try.ntmps21
  go_wp2_with fail
  all_goals go_ret
  all_goals exact ⟨rfl, rfl⟩

set_option maxHeartbeats 2000000 in
theorem begin_any (w : World) (B base : Nat) (s : St) (h : s.At w B base) (hc : 0 ≤ s.count ∧ s.count ≤ 9223372036854775807) :
    Calls Try.prog 28 #[.pointer (some ⟨B, 0, none⟩)] w fun e w' => e = .returned (.bool s.began.crash) ∧ Step base B s s.began w w' := by
  have q := h.six
  have z := h.row.lt
  have H := hid h
  obtain ⟨limit, used, peak, mp, ents, crash, count⟩ := s
  simp only at q hc
  rcases Bool.eq_false_or_eq_true crash with rfl | rfl
  · go_enter Try.func28, Try.ntmps28
    go_wp2_with fail
    all_goals go_ret
    all_goals exact ⟨by simp [St.began], by simpa [St.began] using Step.refl H.out⟩
  · by_cases h1 : count = 1
    · subst h1
      go_enter Try.func28, Try.ntmps28
      go_wp2_with fail
      all_goals go_ret
      all_goals
        refine ⟨by simp [St.began], ?_⟩
        have hr := (H.out.row.set 4 (.bool true)).set 5 (.int .i64 0)
        have := H.out.fields (s' := ⟨limit, used, peak, mp, ents, true, 0⟩) (((But.refl [B] w).setCell (.inl (by simp)) _).setCell (.inl (by simp)) _) hr rfl rfl
        simpa [St.began] using this
    · by_cases h2 : 1 < count
      · have d1 : (count == 1) = false := by simpa using h1
        clear h1
        go_enter Try.func28, Try.ntmps28
        go_wp2_with fail
        all_goals go_ret
        all_goals
          have e1 : ¬ count = 1 := by simpa using d1
          refine ⟨by simp [St.began, e1, h2], ?_⟩
          have hr := H.out.row.set 5 (.int .i64 (count - 1))
          have := H.out.fields (s' := ⟨limit, used, peak, mp, ents, false, count - 1⟩) ((But.refl [B] w).setCell (.inl (by simp)) _) hr rfl rfl
          simpa [St.began, e1, h2] using this
      · have d1 : (count == 1) = false := by simpa using h1
        clear h1
        go_enter Try.func28, Try.ntmps28
        go_wp2_with fail
        all_goals go_ret
        all_goals
          have e1 : ¬ count = 1 := by simpa using d1
          have e2 : ¬ 1 < count := by omega
          exact ⟨by simp [St.began, e1, e2], by simpa [St.began, e1, e2] using Step.refl H.out⟩

set_option maxHeartbeats 2000000 in
theorem New_any (n : Int) (w : World) : Calls Try.prog 9 #[.int .i64 n] w fun e w' => e = .returned (.pointer (some ⟨w.heap.size + 1, 0, none⟩)) ∧ (St.mk (min (max n 0) 262144) 0 0 w.heap.size [] false 0).At w' (w.heap.size + 1) w.heap.size ∧ Below w.heap.size w w' := by
  have hmm := @run_makeMap Try.prog
  have hm0 : (w.alloc (.map #[] 0)).ownsMap Try.prog 9 ptrElem w.heap.size 0 (toD []) := World.ownsMap_made w _ _ _
  have H := hid hm0
  clear hm0
  go_enter Try.func9, Try.ntmps9
  go_wp2_with fail
  all_goals go_ret
  all_goals
    refine ⟨rfl, ⟨?_, H.out.alloc _, fun f hf => (by cases hf), List.Pairwise.nil, by simp⟩, ((Below.refl _ w).alloc (Nat.le_refl _) _).alloc (by simp) _⟩
    unfold St.cells
    simp only []
    first
      | (rw [show min (max n 0) 262144 = 0 by omega]; exact Row.new (by simp))
      | (rw [show min (max n 0) 262144 = 262144 by omega]; exact Row.new (by simp))
      | (rw [show min (max n 0) 262144 = n by omega]; exact Row.new (by simp))
end Go.Proofs.Ytnncbbfbnccnbaa
