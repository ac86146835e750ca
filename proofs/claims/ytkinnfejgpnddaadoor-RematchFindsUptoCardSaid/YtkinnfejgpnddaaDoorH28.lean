/- An argument of layer 9's laws: a string, an offset, a flag. -/
import Derived.Test.YtkinnfejgpnddaaDoorH27
import Derived.Test.YtkinnfejgpnddaaDoorH25
namespace Go.Proofs.YtkinnfejgpnddaaDoor
open Go.ChangeShapes Go.WideShapes Go.ChangeAt Go.RowKit
set_option linter.unusedVariables false
theorem ownKnob9 : ownKnob Tryd.prog.godebug = none := by kernel_rfl
section
variable {H : Type} {enc : TypeId × Value → H} {w : World} {sp : Nat → Bool} {hd : Bool}
/-- An argument of the type Case. -/
theorem open_case {v : Value} {d : DataW H} {ps : List MemPlace} (h : DataW.Trod enc Tryd.prog w 0 sp hd 30 v d ps) : ∃ (s : ByteArray) (x : Int) (b : Bool), v = .agg #[.string s, .int .i64 x, .bool b] ∧ s.size ≤ Rows.uptoBulk d ∧ I64 x := by
  obtain ⟨fuel, hf⟩ := h
  have hcells : Tryd.prog.cellsOf 30 = 3 := by kernel_rfl
  have hstr : Tryd.prog.cellsOf 9 = 1 := by kernel_rfl
  have hint : Tryd.prog.cellsOf 3 = 1 := by kernel_rfl
  have hbool : Tryd.prog.cellsOf 4 = 1 := by kernel_rfl
  obtain ⟨ys, n, hfu, hd0, hl, hlen, hf⟩ := DataW.trod_struct Tryd.underlying30 hf
  rw [hcells] at hl
  match hc : v.cells.toList, hl with
  | [c0, c1, c2], _ =>
  rw [hc] at hf
  match ys, hlen with
  | [y0, y1, y2], _ =>
    have h0 : DataW.trod enc Tryd.prog w 0 sp hd n 9 (([c0, c1, c2].drop 0).take (Tryd.prog.cellsOf 9)) = [y0, y1, y2][0]? := hf 0 _ rfl
    have h1 : DataW.trod enc Tryd.prog w 0 sp hd n 3 (([c0, c1, c2].drop 1).take (Tryd.prog.cellsOf 3)) = [y0, y1, y2][1]? := hf 1 _ rfl
    have h2 : DataW.trod enc Tryd.prog w 0 sp hd n 4 (([c0, c1, c2].drop 2).take (Tryd.prog.cellsOf 4)) = [y0, y1, y2][2]? := hf 2 _ rfl
    rw [hstr] at h0
    rw [hint] at h1
    rw [hbool] at h2
    simp at h0 h1 h2
    obtain ⟨s, e0, hx, -⟩ := DataW.trod_string Tryd.underlying9 h0
    obtain ⟨x, e1, w1⟩ := open_i64 h1
    obtain ⟨b, e2, -⟩ := DataW.trod_bool Tryd.underlying4 h2
    injection e0 with e0
    injection e1 with e1
    injection e2 with e2
    subst e0 e1 e2
    refine ⟨s, x, b, ?_, ?_, w1⟩
    · cases v <;> simp [Value.cells] at hc ⊢
      rename_i arr
      obtain ⟨l⟩ := arr
      simpa using hc
    · simp only [Prod.mk.injEq] at hd0
      rw [hd0.1]
      simp only [Rows.uptoBulk, Rows.uptoBulkAll, List.map_cons]
      rw [hx]
      simp only [Rows.uptoBulk]
      have : s.data.toList.length = s.size := by rw [Array.length_toList]; rfl
      omega
end
end Go.Proofs.YtkinnfejgpnddaaDoor

/- The order of parses, plainly: they are sorted by their ends, no two are equal, and the spans of groups lie within them. -/
namespace Go.Proofs.YtkinnfejgpnddaaDoor
open Go.RowKit

/-- Sorted, and no two equal. -/
def Neat (l : List Parse) : Prop := l.Pairwise (fun x y => y.1 ≤ x.1) ∧ l.Nodup
theorem Neat.nil : Neat [] := ⟨by simp, by simp⟩
theorem Neat.one (q : Parse) : Neat [q] := ⟨by simp, by simp⟩
theorem fin_neat {L : Nat} {l m : List Parse} (h : fin L l = some m) : Neat m := by
  unfold fin at h
  split at h
  · cases h
  · have := Option.some.inj h; subst this
    refine ⟨sortP_desc _ _, ?_⟩
    rw [← nub_sortP]
    exact nub_nodup _
theorem parses_neat {s : List UInt8} {lines : Bool} : ∀ {t : Re} {i : Nat} {sp : Spans} {l : List Parse}, parses s lines t i sp = some l → Neat l
  | .mk p xs, i, sp, l, h => by
    rw [parses] at h
    split at h
    · have := Option.some.inj h; subst this; exact .one _
    split at h
    · have := Option.some.inj h; subst this
      split
      · exact .one _
      · exact .nil
    split at h
    · obtain ⟨m, h1, h2⟩ := Option.bind_eq_some_iff.1 h; exact fin_neat h2
    split at h
    · obtain ⟨m, h1, h2⟩ := Option.bind_eq_some_iff.1 h; exact fin_neat h2
    split at h
    · obtain ⟨m, h1, h2⟩ := Option.bind_eq_some_iff.1 h; exact fin_neat h2
    split at h
    · obtain ⟨m, h1, h2⟩ := Option.bind_eq_some_iff.1 h; exact fin_neat h2
    split at h
    · have := Option.some.inj h; subst this
      split
      · exact .one _
      · exact .nil
    split at h
    · have := Option.some.inj h; subst this
      split
      · exact .one _
      · exact .nil
    · have := Option.some.inj h; subst this
      split
      · exact .one _
      · exact .nil
/-- A parse from i on, its spans between i0 and its end. -/
def PIn (i0 i : Nat) (q : Parse) : Prop := i ≤ q.1 ∧ ∀ x, x ∈ q.2 → x = (-1, -1) ∨ (i0 : Int) ≤ x.1 ∧ x.1 ≤ x.2 ∧ x.2 ≤ q.1
theorem PIn.put {i0 i j k : Nat} {sp : Spans} (g : Nat) (h : PIn i0 i (k, sp)) (h1 : i0 ≤ j) (h2 : j ≤ k) : PIn i0 i (k, sp.set g ((j : Int), (k : Int))) := by
  refine ⟨h.1, fun x hx => ?_⟩
  rcases List.mem_or_eq_of_mem_set hx with hx | rfl
  · exact h.2 x hx
  · exact .inr ⟨by simpa using h1, by simpa using h2, by simp⟩
theorem PIn.unset {i0 i j : Nat} (gs : List Nat) : ∀ {sp : Spans}, PIn i0 i (j, sp) → PIn i0 i (j, unset sp gs) := by
  induction gs with
  | nil => intro sp h; exact h
  | cons g gs ih =>
    intro sp h
    refine ih (sp := sp.set (g - 1) (-1, -1)) ⟨h.1, fun x hx => ?_⟩
    rcases List.mem_or_eq_of_mem_set hx with hx | rfl
    · exact h.2 x hx
    · exact .inl rfl
theorem PIn.on {i0 i j : Nat} {q : Parse} (h : PIn i0 j q) (hij : i ≤ j) : PIn i0 i q := ⟨Nat.le_trans hij h.1, h.2⟩
theorem PIn.at {i0 i : Nat} {q : Parse} (h : PIn i0 i q) : PIn i0 q.1 q := ⟨Nat.le_refl _, h.2⟩
theorem PIn.grow {i0 i k : Nat} {sp : Spans} (h : PIn i0 i (i, sp)) (hk : i ≤ k) : PIn i0 i (k, sp) :=
  ⟨hk, fun x hx => (h.2 x hx).imp id fun h => ⟨h.1, h.2.1, by have := h.2.2; dsimp only at *; omega⟩⟩
section
variable (s : List UInt8) (lines : Bool) (N i0 : Nat)
end
/-- What Parses hands out is sorted, and no two are equal. -/
theorem parsesR_neat {t : Re} {s : ByteArray} {at_ : Int} {lines : Bool} : Neat (parsesR t s at_ lines).1 := by
  unfold parsesR
  split
  · exact .nil
  · cases h : parses s.data.toList lines t at_.toNat (unsetAll t.groups) with
    | none => exact .nil
    | some l => exact parses_neat h
end Go.Proofs.YtkinnfejgpnddaaDoor
