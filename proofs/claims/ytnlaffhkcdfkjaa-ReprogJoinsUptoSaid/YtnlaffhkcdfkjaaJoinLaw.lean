/- Moved targets: the plain law of programs one after the other, and of an optional one. No program. -/
import Derived.Test.YtnlaffhkcdfkjaaBare
namespace Go.Proofs.Ytnlaffhkcdfkjaa
open Go.RowKit

/-- An instruction with moved targets. -/
def Inst.shift (d : Int) (i : Inst) : Inst := { i with x := if i.op = 2 ∨ i.op = 3 then i.x + d else i.x, y := if i.op = 2 then i.y + d else i.y }
theorem shift_of {op : Int} (d : Int) (h2 : op ≠ 2) (h3 : op ≠ 3) (s : Cs) : Inst.shift d ⟨op, s, 0, 0⟩ = ⟨op, s, 0, 0⟩ := by
  unfold Inst.shift
  simp [h2, h3]
theorem shift_split (d : Int) (x y : Int) : Inst.shift d (isplit x y) = isplit (x + d) (y + d) := by
  unfold Inst.shift isplit; simp
theorem shift_jump (d : Int) (x : Int) : Inst.shift d (ijump x) = ijump (x + d) := by
  unfold Inst.shift ijump; simp
theorem isplit_eq {a b c d : Int} (h1 : a = c) (h2 : b = d) : isplit a b = isplit c d := by rw [h1, h2]
theorem ijump_eq {a c : Int} (h1 : a = c) : ijump a = ijump c := by rw [h1]
mutual
theorem Re.gen_shift : ∀ (t : Re) (n d : Nat), t.gen (n + d) = (t.gen n).map (Inst.shift d)
  | .mk p xs, n, d => by
    rw [Re.gen, Re.gen]
    split
    · simp only [List.map_cons, List.map_nil]
      rw [shift_of _ (by decide) (by decide)]
    split
    · simp only [List.map_cons, List.map_nil]
      unfold Inst.of
      rw [shift_of _ (by decide) (by decide)]
    split
    · simp only [List.map_cons, List.map_nil]
      unfold Inst.of
      rw [shift_of _ (by decide) (by decide)]
    split
    · rw [show n + d + Re.asize xs = (n + Re.asize xs) + d by omega]
      exact Re.galt_shift xs n (n + Re.asize xs) d
    split
    · split
      · rw [List.map_append, Re.gens_shift xs n d]
        simp only [List.map_cons, List.map_nil]
        rw [shift_split]
        congr 2
        exact isplit_eq (by omega) (by omega)
      · rw [List.map_cons, List.map_append, shift_split]
        congr 1
        · exact isplit_eq (by omega) (by omega)
        · rw [show n + d + 1 = (n + 1) + d by omega, Re.gens_shift xs (n + 1) d]
          congr 1
          split
          · simp only [List.map_cons, List.map_nil]
            rw [shift_jump]
            congr 1
          · rfl
    · exact Re.gens_shift xs n d
theorem Re.gens_shift : ∀ (xs : List Re) (n d : Nat), Re.gens xs (n + d) = (Re.gens xs n).map (Inst.shift d)
  | [], _, _ => by rw [Re.gens, Re.gens]; rfl
  | t :: ts, n, d => by
    rw [Re.gens, Re.gens, List.map_append, Re.gen_shift t n d, show n + d + t.csize = (n + t.csize) + d by omega, Re.gens_shift ts (n + t.csize) d]
theorem Re.galt_shift : ∀ (xs : List Re) (n fin d : Nat), Re.galt xs (n + d) (fin + d) = (Re.galt xs n fin).map (Inst.shift d)
  | [], _, _, _ => by rw [Re.galt, Re.galt]; rfl
  | t :: ts, n, fin, d => by
    rw [Re.galt, Re.galt]
    split
    · exact Re.gen_shift t n d
    · rw [List.map_cons, List.map_append, List.map_append, shift_split]
      congr 1
      · exact isplit_eq (by omega) (by omega)
      · rw [show n + d + 1 = (n + 1) + d by omega, Re.gen_shift t (n + 1) d, show n + d + t.csize + 2 = (n + t.csize + 2) + d by omega, Re.galt_shift ts (n + t.csize + 2) fin d]
        congr 2
end
theorem Re.expandR_is {t : Re} (h : t.compiled.2 = 0) : t.expandR.1 = t.expand := by
  obtain ⟨h0, h1, -, -, -⟩ := Re.compiled_zero h
  have hw : ¬ 4096 < t.weigh := fun hw => by rw [Re.expandR_much h0 hw] at h1; cases h1
  rw [Re.expandR_ok h0 hw]
theorem Re.compiled_is {t : Re} (h : t.compiled.2 = 0) : t.compiled.1 = t.expand.gen 0 ++ [Inst.of 6] ∧ t.compiled.1.length = t.expand.csize + 1 := by
  have h1 := (Re.compiled_zero h).2.2.1
  have h2 := Re.compiled_len h
  rw [Re.expandR_is h] at h1 h2
  exact ⟨h1, h2⟩
theorem shift_last (d : Int) : Inst.shift d (Inst.of 6) = Inst.of 6 := shift_of _ (by decide) (by decide) _
theorem Re.compiled_cat {a b : Re} (ha : a.compiled.2 = 0) (hb : b.compiled.2 = 0) (hc : (Re.mk (Pay.of 3) [a, b]).compiled.2 = 0) :
    (Re.mk (Pay.of 3) [a, b]).compiled.1 = a.compiled.1.take (a.compiled.1.length - 1) ++ b.compiled.1.map (Inst.shift (a.compiled.1.length - 1 : Nat)) := by
  have ea := Re.compiled_is ha
  have eb := Re.compiled_is hb
  have ec := Re.compiled_is hc
  have ex : (Re.mk (Pay.of 3) [a, b]).expand = .mk (Pay.of 3) [a.expand, b.expand] := by
    rw [Re.expand, if_neg (fun h => absurd h.1 (by decide)), if_neg (by decide), Re.expands, Re.expands, Re.expands]
  have eg : (Re.mk (Pay.of 3) [a.expand, b.expand]).gen 0 = a.expand.gen 0 ++ b.expand.gen a.expand.csize := by
    rw [Re.gen, if_neg (by decide), if_neg (by decide), if_neg (by decide), if_neg (by decide), if_neg (by decide), Re.gens, Re.gens, Re.gens, List.append_nil, Nat.zero_add]
  have hl := Re.gen_len a.expand 0
  have hs := Re.gen_shift b.expand 0 a.expand.csize
  rw [Nat.zero_add] at hs
  rw [ec.1, ex, eg, ea.2, ea.1, eb.1, hs, List.map_append, Nat.add_sub_cancel, List.take_append_of_le_length (by omega), List.take_of_length_le (by omega), List.append_assoc]
  simp only [List.map_cons, List.map_nil, shift_last]
theorem Re.compiled_opt {a : Re} (ha : a.compiled.2 = 0) (hc : (a.rept 0 1).compiled.2 = 0) :
    (a.rept 0 1).compiled.1 = isplit 1 a.compiled.1.length :: a.compiled.1.map (Inst.shift 1) := by
  have ea := Re.compiled_is ha
  have ec := Re.compiled_is hc
  have ex : (a.rept 0 1).expand = a.expand.rept 0 1 := by
    unfold Re.rept
    rw [Re.expand, if_neg (fun h => absurd h.2 (by decide)), if_pos (show (Pay.ofRep 0 1).op = 5 from rfl), Re.expands, Re.expands]
    show (a.expand).counted 0 1 = _
    unfold Re.counted
    rw [if_pos (.inl ⟨rfl, .inl rfl⟩)]
    rfl
  have hs := Re.gen_shift a.expand 0 1
  rw [Nat.zero_add] at hs
  have eg : (a.expand.rept 0 1).gen 0 = isplit 1 (a.expand.csize + 1 : Nat) :: a.expand.gen 1 := by
    unfold Re.rept
    rw [Re.gen, if_neg (by decide), if_neg (by decide), if_neg (by decide), if_neg (by decide), if_pos (show (Pay.ofRep 0 1).op = 5 from rfl), if_neg (by decide), if_neg (by decide), if_neg (by decide), Re.gens, Re.gens, List.append_nil, List.append_nil, Re.csizes, Re.csizes]
    congr 1
    exact isplit_eq (by omega) (by omega)
  rw [ec.1, ex, eg, hs, ea.2, ea.1, List.map_append]
  simp only [List.map_cons, List.map_nil, shift_last, List.cons_append]
  rfl
end Go.Proofs.Ytnlaffhkcdfkjaa
