/- Trees that Check accepts, and their expansions, have arguments as the code expects them. What Compile returns. No program. -/
import Derived.Test.YtnlaffhkcdfkjaaRCode
import Derived.Test.YtnlaffhkcdfkjaaExpEnd
namespace Go.Proofs.Ytnlaffhkcdfkjaa
open Go.RowKit

theorem Pay.shaped_fine {p : Pay} {n : Nat} (h : p.shaped n = true) : (p.op = 4 → 1 ≤ n) ∧ (p.op = 5 → n = 1) ∧ (p.op = 6 → n = 1) ∧ (p.op = 3 ∨ p.op = 4 ∨ p.op = 5 ∨ p.op = 6 ∨ n = 0) := by
  unfold Pay.shaped at h
  by_cases h1 : p.op = 1 ∨ p.op = 7 ∨ p.op = 8
  · rw [if_pos h1] at h; simp at h; refine ⟨by omega, by omega, by omega, by omega⟩
  rw [if_neg h1] at h
  by_cases h2 : p.op = 2
  · rw [if_pos h2] at h; simp at h; refine ⟨by omega, by omega, by omega, by omega⟩
  rw [if_neg h2] at h
  by_cases h3 : p.op = 3 ∨ p.op = 4
  · rw [if_pos h3] at h; simp at h; refine ⟨by omega, by omega, by omega, by omega⟩
  rw [if_neg h3] at h
  by_cases h5 : p.op = 5
  · rw [if_pos h5] at h; simp at h; refine ⟨by omega, by omega, by omega, by omega⟩
  rw [if_neg h5] at h
  by_cases h6 : p.op = 6
  · rw [if_pos h6] at h; simp at h; refine ⟨by omega, by omega, by omega, by omega⟩
  rw [if_neg h6] at h
  by_cases h9 : p.op = 9
  · rw [if_pos h9] at h; simp at h; refine ⟨by omega, by omega, by omega, by omega⟩
  rw [if_neg h9] at h
  cases h
mutual
theorem Re.typed_fine : ∀ t : Re, t.typed = true → t.fine
  | .mk p xs, h => by
    rw [Re.typed, Bool.and_eq_true] at h
    obtain ⟨h1, h2, h3, h4⟩ := Pay.shaped_fine h.1
    rw [Re.fine]
    refine ⟨h1, h2, ⟨h3, ?_⟩, Re.typeds_fines xs h.2⟩
    rcases h4 with h | h | h | h | h
    · exact .inl h
    · exact .inr (.inl h)
    · exact .inr (.inr (.inl h))
    · exact .inr (.inr (.inr (.inl h)))
    · exact .inr (.inr (.inr (.inr (List.length_eq_zero_iff.1 h))))
theorem Re.typeds_fines : ∀ xs : List Re, Re.typeds xs = true → Re.fines xs
  | [], _ => by rw [Re.fines]; trivial
  | t :: ts, h => by
    rw [Re.typeds, Bool.and_eq_true] at h
    rw [Re.fines]
    exact ⟨Re.typed_fine t h.1, Re.typeds_fines ts h.2⟩
end
theorem Re.fines_of : ∀ (xs : List Re), (∀ a, a ∈ xs → a.fine) → Re.fines xs
  | [], _ => by rw [Re.fines]; trivial
  | t :: ts, h => by rw [Re.fines]; exact ⟨h t (by simp), Re.fines_of ts fun a ha => h a (by simp [ha])⟩
theorem Re.rept_fine {x : Re} (h : x.fine) (lo hi : Int) : (x.rept lo hi).fine := by
  unfold Re.rept
  rw [Re.fine]
  exact ⟨fun e => absurd e (show (5 : Int) ≠ 4 by decide), fun _ => rfl, ⟨fun e => absurd e (show (5 : Int) ≠ 6 by decide), .inr (.inr (.inl rfl))⟩, Re.fines_of _ fun a ha => by rw [List.mem_singleton.1 ha]; exact h⟩
theorem Re.cat_fine {xs : List Re} (h : ∀ a, a ∈ xs → a.fine) : (Re.mk (Pay.of 3) xs).fine := by
  rw [Re.fine]
  exact ⟨fun e => absurd e (show (3 : Int) ≠ 4 by decide), fun e => absurd e (show (3 : Int) ≠ 5 by decide), ⟨fun e => absurd e (show (3 : Int) ≠ 6 by decide), .inl rfl⟩, Re.fines_of xs h⟩
theorem Re.none_fine {p : Pay} (h4 : p.op ≠ 4) (h5 : p.op ≠ 5) (h6 : p.op ≠ 6) : (Re.mk p []).fine := by
  rw [Re.fine, Re.fines]
  exact ⟨fun e => absurd e h4, fun e => absurd e h5, ⟨fun e => absurd e h6, .inr (.inr (.inr (.inr rfl)))⟩, trivial⟩
theorem Re.counted_fine {x : Re} (h : x.fine) (lo hi : Int) : (x.counted lo hi).fine := by
  unfold Re.counted
  split
  · exact Re.rept_fine h _ _
  split
  · exact Re.none_fine (show (1 : Int) ≠ 4 by decide) (show (1 : Int) ≠ 5 by decide) (show (1 : Int) ≠ 6 by decide)
  split
  · exact h
  split
  · exact Re.cat_fine fun a ha => by rw [List.eq_of_mem_replicate ha]; exact h
  split
  · refine Re.cat_fine fun a ha => ?_
    rcases List.mem_append.1 ha with ha | ha
    · rw [List.eq_of_mem_replicate ha]; exact h
    · rw [List.mem_singleton.1 ha]; exact Re.rept_fine h _ _
  · refine Re.cat_fine fun a ha => ?_
    rcases List.mem_append.1 ha with ha | ha
    · rw [List.eq_of_mem_replicate ha]; exact h
    · rw [List.eq_of_mem_replicate ha]; exact Re.rept_fine h _ _
theorem Re.expand_fine (t : Re) : t.fine → t.expand.fine := by
  induction t using Re.ind with
  | h p xs ih =>
    intro hf
    rw [Re.fine] at hf
    obtain ⟨h4, h5, ⟨h6, hn⟩, hs⟩ := hf
    rw [Re.expand, Re.expands_map]
    by_cases o5 : p.op = 5
    · by_cases hh : p.op = 5 ∧ p.hi = 0
      · rw [if_pos hh]
        exact Re.none_fine (show (1 : Int) ≠ 4 by decide) (show (1 : Int) ≠ 5 by decide) (show (1 : Int) ≠ 6 by decide)
      · rw [if_neg hh, if_pos o5]
        obtain ⟨x0, rfl⟩ := List.length_eq_one_iff.1 (h5 o5)
        exact Re.counted_fine (ih x0 (by simp) (Re.fines_mem _ hs x0 (by simp))) _ _
    · rw [if_neg (fun h => o5 h.1), if_neg o5, Re.fine]
      refine ⟨fun e => by rw [List.length_map]; exact h4 e, fun e => absurd e o5, ⟨fun e => by rw [List.length_map]; exact h6 e, ?_⟩, Re.fines_of _ fun a ha => ?_⟩
      · rcases hn with h | h | h | h | h
        · exact .inl h
        · exact .inr (.inl h)
        · exact .inr (.inr (.inl h))
        · exact .inr (.inr (.inr (.inl h)))
        · exact .inr (.inr (.inr (.inr (by rw [h]; rfl))))
      · obtain ⟨b, hb, rfl⟩ := List.mem_map.1 ha
        exact ih b hb (Re.fines_mem _ hs b hb)
theorem Re.expandR_fine {t : Re} (h : t.err = 0) : t.expandR.1.fine := by
  unfold Re.expandR
  rw [if_neg (fun k => k h)]
  split
  · exact Re.none_fine (show (0 : Int) ≠ 4 by decide) (show (0 : Int) ≠ 5 by decide) (show (0 : Int) ≠ 6 by decide)
  · exact Re.expand_fine t (Re.typed_fine t (Re.err_zero h).1)

/-- The instructions, and the error, that Compile returns. -/
def Re.compiled (t : Re) : List Inst × Int :=
  if t.err ≠ 0 then ([], t.err) else if 0 < t.backs then ([], 7) else if t.expandR.2 ≠ 0 then ([], t.expandR.2) else if 4096 < t.expandR.1.csize + 1 then ([], 3) else (t.expandR.1.gen 0 ++ [Inst.of 6], 0)
/-- What Compile leaves. -/
def CPost (t : Re) (lines : Bool) (w : World) (e : Ending) (w' : World) : Prop :=
  ∃ (a : Option Addr) (n c : Nat), e = .returned (.tuple #[.agg #[.slice a n c, .bool (lines && decide (t.compiled.2 = 0))], .int .i64 t.compiled.2]) ∧ OwnI w' w.heap.size (.slice a n c) t.compiled.1 ∧ Below w.heap.size w w'
theorem Re.compiled_err {t : Re} (h : ¬ t.err = 0) : t.compiled = ([], t.err) := by unfold Re.compiled; rw [if_pos h]
theorem Re.compiled_back {t : Re} (h : t.err = 0) (h2 : 0 < t.backs) : t.compiled = ([], 7) := by unfold Re.compiled; rw [if_neg (fun k => k h), if_pos h2]
theorem Re.compiled_much {t : Re} (h : t.err = 0) (h2 : ¬ 0 < t.backs) (h3 : ¬ t.expandR.2 = 0) : t.compiled = ([], t.expandR.2) := by unfold Re.compiled; rw [if_neg (fun k => k h), if_neg h2, if_pos h3]
theorem Re.compiled_long {t : Re} (h : t.err = 0) (h2 : ¬ 0 < t.backs) (h3 : t.expandR.2 = 0) (h4 : 4096 < t.expandR.1.csize + 1) : t.compiled = ([], 3) := by unfold Re.compiled; rw [if_neg (fun k => k h), if_neg h2, if_neg (fun k => k h3), if_pos h4]
theorem Re.compiled_ok {t : Re} (h : t.err = 0) (h2 : ¬ 0 < t.backs) (h3 : t.expandR.2 = 0) (h4 : ¬ 4096 < t.expandR.1.csize + 1) : t.compiled = (t.expandR.1.gen 0 ++ [Inst.of 6], 0) := by unfold Re.compiled; rw [if_neg (fun k => k h), if_neg h2, if_neg (fun k => k h3), if_neg h4]
theorem OwnI.weak {w : World} {b b' : Nat} {v : Value} {L : List Inst} (h : OwnI w b v L) (hb : b' ≤ b) : OwnI w b' v L := by
  refine ⟨h.1, ?_⟩
  rcases h.2 with hn | ⟨g, cap, cur, rfl, hb1, rest⟩
  · exact .inl hn
  · exact .inr ⟨g, cap, cur, rfl, Nat.le_trans hb hb1, rest⟩
theorem Row.set2 {w : World} {B : Nat} {a b : Value} {T : TypeId} (h : Row w B [a, b] T) (a' b' : Value) : Row ((w.setCell ⟨B, 0, none⟩ a').setCell ⟨B, 1, none⟩ b') B [a', b'] T := (h.set 0 _).set 1 _
theorem below2 {n : Nat} {w x : World} {B : Nat} (h : Below n w x) (hB : n ≤ B) (a' b' : Value) : Below n w ((x.setCell ⟨B, 0, none⟩ a').setCell ⟨B, 1, none⟩ b') := (h.setCell hB _).setCell hB _
theorem OwnI.set2 {w : World} {base B : Nat} {v : Value} {L : List Inst} (h : OwnI w base v L) (hB : B < base) (a' b' : Value) : OwnI ((w.setCell ⟨B, 0, none⟩ a').setCell ⟨B, 1, none⟩ b') base v L :=
  h.but (((But.refl [B] w).setCell (p := ⟨B, 0, none⟩) (.inl (by simp)) a').setCell (p := ⟨B, 1, none⟩) (.inl (by simp)) b') hB
theorem size_prog (a b : Value) : (Try.prog.info? 31).map (·.size) = some [a, b].length := by show _ = some 2; kernel_rfl
end Go.Proofs.Ytnlaffhkcdfkjaa
