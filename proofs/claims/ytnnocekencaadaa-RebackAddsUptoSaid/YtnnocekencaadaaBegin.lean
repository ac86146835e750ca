/- Reback: a new search. -/
import Derived.Test.YtnnocekencaadaaAtM
import Derived.Deep.DeepCutAuto
import Derived.Deep.CutBlock
import Derived.Laws.EntriesVeiled
namespace Go.Proofs.Ytnnocekencaadaa
open Go.RowKit
attribute [local go_sem] gives givesUpon

theorem Row.f14 {w : World} {B : Nat} {cs : List Value} {T : TypeId} (h : Row w B cs T) : w.frozen? ⟨B, 5, none⟩ = false ∧ w.frozen? ⟨B, 6, none⟩ = false ∧ w.frozen? ⟨B, 7, none⟩ = false ∧ w.frozen? ⟨B, 8, none⟩ = false ∧ w.frozen? ⟨B, 9, none⟩ = false ∧ w.frozen? ⟨B, 10, none⟩ = false ∧ w.frozen? ⟨B, 11, none⟩ = false ∧ w.frozen? ⟨B, 12, none⟩ = false ∧ w.frozen? ⟨B, 13, none⟩ = false :=
  ⟨h.free 5, h.free 6, h.free 7, h.free 8, h.free 9, h.free 10, h.free 11, h.free 12, h.free 13⟩
theorem Row.k14 {w : World} {B : Nat} {a b c d e f0 f1 f2 f3 f4 f5 f6 f7 f8 : Value} {T : TypeId} (h : Row w B [a, b, c, d, e, f0, f1, f2, f3, f4, f5, f6, f7, f8] T) : w.cell? ⟨B, 5, none⟩ = some f0 ∧ w.cell? ⟨B, 6, none⟩ = some f1 ∧ w.cell? ⟨B, 7, none⟩ = some f2 ∧ w.cell? ⟨B, 8, none⟩ = some f3 ∧ w.cell? ⟨B, 9, none⟩ = some f4 ∧ w.cell? ⟨B, 10, none⟩ = some f5 ∧ w.cell? ⟨B, 11, none⟩ = some f6 ∧ w.cell? ⟨B, 12, none⟩ = some f7 ∧ w.cell? ⟨B, 13, none⟩ = some f8 :=
  ⟨h.cell 5, h.cell 6, h.cell 7, h.cell 8, h.cell 9, h.cell 10, h.cell 11, h.cell 12, h.cell 13⟩
-- def CL := [.string s, .bool lines, .int .i64 0, .int .i64 b0, .bool false, .nilFunc, .nilFunc, .nilFunc, .nilFunc, .nilFunc, .nilFunc, .nilFunc, .nilFunc, .nilFunc]
set_option maxRecDepth 100000 in
set_option maxHeartbeats 8000000 in
theorem begin_any (w w0 : World) (s : ByteArray) (lines : Bool) (budget : Int) (B N G : Nat) (hB : max budget 0 = (B : Int)) :
    Calls Try.prog 24 #[.string s, .bool lines, .int .i64 budget] w fun e w' => e = .returned (.pointer (some ⟨w.heap.size, 0, none⟩)) ∧ Row w' w.heap.size ((⟨w0, w.heap.size, w.heap.size + 1, G, N, B, s, lines⟩ : Ctx).cells 0 false) 59 ∧ Row w' (w.heap.size + 1) [.pointer (some ⟨w.heap.size, 0, none⟩)] 52 ∧ Below w.heap.size w w' := by
  have key : ∀ b0 : Int, ∀ W : World, W = ((w.alloc (.cells #[.string s, .bool lines, .int .i64 0, .int .i64 b0, .bool false, .nilFunc, .nilFunc, .nilFunc, .nilFunc, .nilFunc, .nilFunc, .nilFunc, .nilFunc, .nilFunc] 59)).alloc (.cells #[.pointer (some ⟨w.heap.size, 0, none⟩)] 52)) → Row W w.heap.size [.string s, .bool lines, .int .i64 0, .int .i64 b0, .bool false, .nilFunc, .nilFunc, .nilFunc, .nilFunc, .nilFunc, .nilFunc, .nilFunc, .nilFunc, .nilFunc] 59 ∧ Row W (w.heap.size + 1) [.pointer (some ⟨w.heap.size, 0, none⟩)] 52 ∧ Below w.heap.size w W := by
    intro b0 W e
    subst e
    exact ⟨(Row.new rfl).alloc _, Row.new (by simp), ((Below.refl _ w).alloc (Nat.le_refl _) _).alloc (by simp) _⟩
  have HB := hid hB
  clear hB
  by_cases hneg : budget < 0
  · go_enter Try.func24, Try.ntmps24
    go_upto_region 2 with fail
    have hk := key 0 _ rfl
    have hbb : Hid (0 = (B : Int)) := by show _ = _; have := HB.out; omega
    clear key
    generalize ((w.alloc (.cells #[.string s, .bool lines, .int .i64 0, .int .i64 0, .bool false, .nilFunc, .nilFunc, .nilFunc, .nilFunc, .nilFunc, .nilFunc, .nilFunc, .nilFunc, .nilFunc] 59)).alloc (.cells #[.pointer (some ⟨w.heap.size, 0, none⟩)] 52)) = W at *
    obtain ⟨h1, h2, h3⟩ := hk
    have q1 := h1.f14
    have q2 := h1.k14
    have q3 := h2.cell 0
    have HX := hid (⟨h1, h2, h3⟩ : _ ∧ _ ∧ _)
    clear h1 h2 h3
    go_wp2_with fail
    go_ret
    obtain ⟨h1, h2, h3⟩ := HX.out
    refine ⟨rfl, ?_, ?_, ?_⟩
    · have := ((((((((h1.set 5 (.func (.func 31) #[] #[])).set 6 (.func (.func 32) #[] #[.pointer (some ⟨w.heap.size + 1, 0, none⟩)])).set 7 (.func (.func 36) #[] #[.pointer (some ⟨w.heap.size + 1, 0, none⟩)])).set 8 (.func (.func 38) #[.pointer (some ⟨w.heap.size, 0, none⟩)] #[])).set 9 (.func (.func 39) #[] #[.pointer (some ⟨w.heap.size + 1, 0, none⟩)])).set 10 (.func (.func 42) #[.pointer (some ⟨w.heap.size, 0, none⟩)] #[])).set 11 (.func (.func 34) #[] #[.pointer (some ⟨w.heap.size + 1, 0, none⟩)])).set 12 (.func (.func 35) #[] #[.pointer (some ⟨w.heap.size + 1, 0, none⟩)])).set 13 (.func (.func 43) #[.pointer (some ⟨w.heap.size, 0, none⟩)] #[])
      have hB0 : B = 0 := by have := hbb.out; omega
      rw [hB0]
      exact this
    · have hne : w.heap.size + 1 ≠ w.heap.size := by omega
      exact ((((((((h2.other hne _ _).other hne _ _).other hne _ _).other hne _ _).other hne _ _).other hne _ _).other hne _ _).other hne _ _).other hne _ _
    · exact ((((((((h3.setCell (Nat.le_refl _) _).setCell (Nat.le_refl _) _).setCell (Nat.le_refl _) _).setCell (Nat.le_refl _) _).setCell (Nat.le_refl _) _).setCell (Nat.le_refl _) _).setCell (Nat.le_refl _) _).setCell (Nat.le_refl _) _).setCell (Nat.le_refl _) _
  · go_enter Try.func24, Try.ntmps24
    go_upto_region 2 with fail
    have hk := key budget _ rfl
    have hbb : Hid (budget = (B : Int)) := by show _ = _; have := HB.out; omega
    clear key
    generalize ((w.alloc (.cells #[.string s, .bool lines, .int .i64 0, .int .i64 budget, .bool false, .nilFunc, .nilFunc, .nilFunc, .nilFunc, .nilFunc, .nilFunc, .nilFunc, .nilFunc, .nilFunc] 59)).alloc (.cells #[.pointer (some ⟨w.heap.size, 0, none⟩)] 52)) = W at *
    obtain ⟨h1, h2, h3⟩ := hk
    have q1 := h1.f14
    have q2 := h1.k14
    have q3 := h2.cell 0
    have HX := hid (⟨h1, h2, h3⟩ : _ ∧ _ ∧ _)
    clear h1 h2 h3
    go_wp2_with fail
    go_ret
    obtain ⟨h1, h2, h3⟩ := HX.out
    refine ⟨rfl, ?_, ?_, ?_⟩
    · have := ((((((((h1.set 5 (.func (.func 31) #[] #[])).set 6 (.func (.func 32) #[] #[.pointer (some ⟨w.heap.size + 1, 0, none⟩)])).set 7 (.func (.func 36) #[] #[.pointer (some ⟨w.heap.size + 1, 0, none⟩)])).set 8 (.func (.func 38) #[.pointer (some ⟨w.heap.size, 0, none⟩)] #[])).set 9 (.func (.func 39) #[] #[.pointer (some ⟨w.heap.size + 1, 0, none⟩)])).set 10 (.func (.func 42) #[.pointer (some ⟨w.heap.size, 0, none⟩)] #[])).set 11 (.func (.func 34) #[] #[.pointer (some ⟨w.heap.size + 1, 0, none⟩)])).set 12 (.func (.func 35) #[] #[.pointer (some ⟨w.heap.size + 1, 0, none⟩)])).set 13 (.func (.func 43) #[.pointer (some ⟨w.heap.size, 0, none⟩)] #[])
      rw [hbb.out] at this
      exact this
    · have hne : w.heap.size + 1 ≠ w.heap.size := by omega
      exact ((((((((h2.other hne _ _).other hne _ _).other hne _ _).other hne _ _).other hne _ _).other hne _ _).other hne _ _).other hne _ _).other hne _ _
    · exact ((((((((h3.setCell (Nat.le_refl _) _).setCell (Nat.le_refl _) _).setCell (Nat.le_refl _) _).setCell (Nat.le_refl _) _).setCell (Nat.le_refl _) _).setCell (Nat.le_refl _) _).setCell (Nat.le_refl _) _).setCell (Nat.le_refl _) _).setCell (Nat.le_refl _) _
end Go.Proofs.Ytnnocekencaadaa
