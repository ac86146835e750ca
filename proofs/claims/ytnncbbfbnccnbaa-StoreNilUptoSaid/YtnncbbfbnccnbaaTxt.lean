/- The bytes of a file: a slice of bytes whose block is nobody else's; what an append of a string leaves. Nothing here speaks of the program. -/
import Derived.Test.YtnncbbfbnccnbaaRe
import Derived.Lib.AppendStr
import Derived.Lib.UnsafeStr
namespace Go.Proofs.Ytnncbbfbnccnbaa
open Go.RowKit

/-- The value is a slice of these bytes: nil, or the beginning of a block (whose rest is nobody's). -/
def Txt (e : TypeId) (w : World) (v : Value) (bs : List UInt8) : Prop :=
  (v = .slice none 0 0 ∧ bs = []) ∨ ∃ g cap cur, v = .slice (some ⟨g, 0, none⟩) bs.length cap ∧ w.heap[g]? = some (.cells cur e (0, 0)) ∧ bs.length ≤ cap ∧ cap ≤ cur.size ∧ cap ≤ maxLen ∧ cur.toList.take bs.length = Lib.byteCells bs

section
variable {P : Program} {e : TypeId} {w : World} {v : Value} {bs : List UInt8}
theorem Txt.nil (e : TypeId) (w : World) : Txt e w (.slice none 0 0) [] := .inl ⟨rfl, rfl⟩
theorem Txt.form (h : Txt e w v bs) : ∃ a c, v = .slice a bs.length c ∧ bs.length ≤ c ∧ c ≤ maxLen ∧ (a = none ∨ ∃ g, a = some ⟨g, 0, none⟩ ∧ g < w.heap.size) := by
  rcases h with ⟨rfl, rfl⟩ | ⟨g, cap, cur, rfl, h1, h2, h3, h4, h5⟩
  · exact ⟨none, 0, rfl, Nat.le_refl _, Nat.zero_le _, .inl rfl⟩
  · refine ⟨_, cap, rfl, h2, h4, .inr ⟨g, rfl, ?_⟩⟩
    rcases Nat.lt_or_ge g w.heap.size with h6 | h6
    · exact h6
    · simp [Array.getElem?_eq_none h6] at h1
theorem Txt.lt (h : Txt e w v bs) : ∀ g, v.ownBlock = some g → g < w.heap.size := by
  intro g hg
  rcases h with ⟨rfl, rfl⟩ | ⟨g', cap, cur, rfl, h1, h2, h3, h4, h5⟩
  · cases hg
  · have e1 : g' = g := by simpa [Value.ownBlock] using hg
    subst e1
    rcases Nat.lt_or_ge g' w.heap.size with h6 | h6
    · exact h6
    · simp [Array.getElem?_eq_none h6] at h1
theorem Txt.kept {w' : World} (h : Txt e w v bs) (hk : ∀ g, v.ownBlock = some g → w'.heap[g]? = w.heap[g]?) : Txt e w' v bs := by
  rcases h with h | ⟨g, cap, cur, rfl, h1, h2, h3, h4, h5⟩
  · exact .inl h
  · exact .inr ⟨g, cap, cur, rfl, (hk g rfl).trans h1, h2, h3, h4, h5⟩
theorem Txt.below {w' : World} {n : Nat} (h : Txt e w v bs) (hb : Below n w w') (hn : ∀ g, v.ownBlock = some g → g < n) : Txt e w' v bs := h.kept fun g hg => hb.block g (hn g hg)
theorem Txt.cells {g n cap : Nat} (h : Txt e w (.slice (some ⟨g, 0, none⟩) n cap) bs) : n = bs.length ∧ ∀ j, (hj : j < bs.length) → w.cell? ⟨g, j, none⟩ = some (.int .u8 bs[j].toNat) := by
  rcases h with ⟨h, _⟩ | ⟨g', cap', cur, hv, h1, h2, h3, h4, h5⟩
  · cases h
  · injection hv with e1 e2 e3
    injection e1 with e1
    injection e1 with e1
    subst e1 e2 e3
    refine ⟨rfl, fun j hj => ?_⟩
    have h6 : (cur.toList.take bs.length)[j]? = (Lib.byteCells bs)[j]? := by rw [h5]
    rw [List.getElem?_take, if_pos hj] at h6
    simp only [World.cell?, h1]
    simpa [Lib.byteCells, List.getElem?_eq_getElem hj] using h6
theorem Txt.frozen {g n cap : Nat} (h : Txt e w (.slice (some ⟨g, 0, none⟩) n cap) bs) (j : Nat) : w.frozen? ⟨g, j, none⟩ = false := by
  rcases h with ⟨h, _⟩ | ⟨g', cap', cur, hv, h1, _⟩
  · cases h
  · injection hv with e1 e2 e3
    injection e1 with e1
    injection e1 with e1
    subst e1
    simp [World.frozen?, h1]
/-- A beginning of the bytes, with no more room. -/
theorem Txt.cut {g n cap : Nat} (h : Txt e w (.slice (some ⟨g, 0, none⟩) n cap) bs) (k c : Nat) (hk : k ≤ bs.length) (hc : k ≤ c) (hc2 : c ≤ cap) : Txt e w (.slice (some ⟨g, 0, none⟩) k c) (bs.take k) := by
  rcases h with ⟨h, _⟩ | ⟨g', cap', cur, hv, h1, h2, h3, h4, h5⟩
  · cases h
  · injection hv with e1 e2 e3
    injection e1 with e1
    injection e1 with e1
    subst e1 e2 e3
    have hl : (bs.take k).length = k := by rw [List.length_take]; omega
    refine .inr ⟨g, c, cur, by rw [hl], h1, by omega, by omega, by omega, ?_⟩
    rw [hl]
    have h6 : (cur.toList.take bs.length).take k = (Lib.byteCells bs).take k := by rw [h5]
    rw [List.take_take, Nat.min_eq_left hk] at h6
    rw [h6]
    simp [Lib.byteCells, List.map_take]

theorem strCells_bytes (s : ByteArray) : Lib.strCells s = Lib.byteCells s.data.toList := rfl

theorem Txt.run_append (h : Txt e w v bs) (t u ty : TypeId) (i : TypeInfo) (ht : P.underlying t = some (.slice e)) (hu : P.underlying u = some .string) (hi : P.info? e = some i) (hz : i.zero = some (.int .u8 0)) (hsize : i.size = 1) (hby : i.bytes = 1)
    (s : ByteArray) (hb : bs.length + s.size ≤ 140737488355328) :
    ∃ v' w', (Builtin.append_ #[t, u] ty #[v, .string s]).run P w = .ok v' w' ∧ Txt e w' v' (bs ++ s.data.toList) ∧ w.grownBy w' v.ownBlock ∧ ∀ g, v'.ownBlock = some g → v.ownBlock = some g ∨ w.heap.size ≤ g := by
  have hsl : s.data.toList.length = s.size := by rw [Array.length_toList]; rfl
  have hm : bs.length + s.size ≤ maxLen := by unfold maxLen; omega
  have hlen : (bs ++ s.data.toList).length = bs.length + s.size := by rw [List.length_append, hsl]
  have hbl : (Lib.byteCells bs).length = bs.length := Lib.byteCells_length bs
  have grown : ∀ (old : Nat) (row : Option Nat),
      Txt e (w.drew.alloc (.cells ((Lib.byteCells bs).toArray ++ (Lib.strCells s).toArray ++ Builtin.zeroCells (Value.int .u8 0).cells (grownCap w (bs.length + s.size) old e - (bs.length + s.size))) e)) (.slice (some ⟨w.heap.size, 0, none⟩) (bs.length + s.size) (grownCap w (bs.length + s.size) old e)) (bs ++ s.data.toList) ∧
      w.grownBy (w.drew.alloc (.cells ((Lib.byteCells bs).toArray ++ (Lib.strCells s).toArray ++ Builtin.zeroCells (Value.int .u8 0).cells (grownCap w (bs.length + s.size) old e - (bs.length + s.size))) e)) row := by
    intro old row
    have hge := grownCap_ge w (bs.length + s.size) old e
    have hcm : grownCap w (bs.length + s.size) old e ≤ maxLen := grownCap_le_maxLen w (bs.length + s.size) old e hm
    refine ⟨.inr ⟨w.heap.size, _, _, by rw [hlen], heap_alloc_new w.drew _, by omega, ?_, hcm, ?_⟩, ⟨rfl, rfl, rfl, by simp, fun k hk _ => heap_alloc_old w.drew _ hk⟩⟩
    · have hz1 : (Value.int IntKind.u8 0).cells.size = 1 := rfl
      simp only [Array.size_append, List.size_toArray, size_zeroCells, hz1, hbl, Lib.strCells_length]
      omega
    · simp only [Array.toList_append, List.append_assoc]
      rw [← List.append_assoc, Lib.byteCells_append, ← strCells_bytes, hlen, show bs.length + s.size = (Lib.byteCells bs ++ Lib.strCells s).length by rw [List.length_append, hbl, Lib.strCells_length]]
      exact List.take_left
  rcases h with ⟨rfl, rfl⟩ | ⟨g, cap, cur, rfl, hg, hnc, hcs, hcm, htake⟩
  · by_cases h0 : s.size = 0
    · have hn : s.data.toList = [] := List.eq_nil_of_length_eq_zero (by rw [hsl]; exact h0)
      refine ⟨.slice none 0 0, w, ?_, by rw [hn]; exact Txt.nil e w, ⟨rfl, rfl, rfl, Nat.le_refl _, fun _ _ _ => rfl⟩, fun g hg => by cases hg⟩
      have hf := Lib.run_firstCells_string (P := P) w 1 s
      rw [h0] at hf
      simp [Builtin.append_, run_underlying ht, run_underlying hu, sizeOf, typeInfo, hi, hsize, Builtin.lenOf, h0, hf]
    · have hr := run_append_nil_string (P := P) w t u ty e i (.int .u8 0) ht hu hi hz s (by omega) (by simp at hb; omega) (by rw [hby]; simp at hb; omega)
      have hgr := grown 0 (Value.ownBlock (.slice none 0 0))
      have e0 : Lib.byteCells [] = [] := rfl
      simp only [List.length_nil, Nat.zero_add, List.nil_append, e0, Array.empty_append] at hgr ⊢
      have e1 : (s.data.map fun b => Value.int .u8 b.toNat) = (Lib.strCells s).toArray := by
        apply Array.ext'
        simp [Lib.strCells]
      rw [e1] at hr
      exact ⟨_, _, hr, hgr.1, hgr.2, fun g hg => .inr (by simp [Value.ownBlock] at hg; omega)⟩
  · by_cases hroom : bs.length + s.size ≤ cap
    · have hr := Lib.run_append_room_string (P := P) w t u ty e i ht hu hi hsize g bs.length cap cur hg s hroom (by omega)
      refine ⟨_, _, hr, .inr ⟨g, cap, _, by rw [hlen], setRow_heap w g cur _ e _ hg, by omega, ?_, hcm, ?_⟩, ⟨rfl, rfl, rfl, by simp, fun k _ hk => setRow_other w g k _ (fun e => hk (by simp [Value.ownBlock, e]))⟩, fun g' hg' => .inl hg'⟩
      · simp only [List.size_toArray, List.length_append, List.length_take, List.length_drop, Array.length_toList, Lib.strCells_length]
        omega
      · rw [htake, Lib.byteCells_append, ← strCells_bytes, hlen, show bs.length + s.size = (Lib.byteCells bs ++ Lib.strCells s).length by rw [List.length_append, hbl, Lib.strCells_length]]
        exact List.take_left
    · have holds : ∀ j u, (Lib.byteCells bs)[j]? = some u → w.cell? ((⟨g, 0, none⟩ : Addr).add j) = some u := by
        intro j u hj
        have hjl : j < bs.length := by have := (List.getElem?_eq_some_iff.1 hj).1; omega
        have h6 : (cur.toList.take bs.length)[j]? = (Lib.byteCells bs)[j]? := by rw [htake]
        rw [List.getElem?_take, if_pos hjl, hj] at h6
        rw [Addr.add_lit, Nat.zero_add]
        simp only [World.cell?, hg]
        simpa using h6
      have hr := Lib.run_append_grow_string (P := P) w t u ty e i (.int .u8 0) ht hu hi hz ⟨g, 0, none⟩ bs.length cap (Lib.byteCells bs) (by rw [hsize, hbl, Nat.mul_one]) holds s (by omega) (by omega) (by rw [hby]; exact growslice_fits (by omega) (by omega))
      have hgr := grown cap (Value.ownBlock (.slice (some ⟨g, 0, none⟩) bs.length cap))
      exact ⟨_, _, hr, hgr.1, hgr.2, fun g' hg' => .inr (by simp [Value.ownBlock] at hg'; omega)⟩

theorem wpList_append_txt {ops : Array Oper} {rest : List Oper} {o : Oper} {a : Act} {Q : Exit → Act → World → Prop} (hgd : o.guard = none) (sl x : Operand) (t u : TypeId)
    (ho : o.op = .call { callee := .builtin .append, args := #[sl, x], argTypes := #[t, u] }) (i : TypeInfo) (ht : P.underlying t = some (.slice e)) (hu : P.underlying u = some .string) (hi : P.info? e = some i) (hz : i.zero = some (.int .u8 0)) (hsize : i.size = 1) (hby : i.bytes = 1)
    (hv : a.eval sl = v) (h : Txt e w v bs) (s : ByteArray) (hx : a.eval x = .string s) (hb : bs.length + s.size ≤ 140737488355328)
    (k : ∀ v' w', Txt e w' v' (bs ++ s.data.toList) → w.grownBy w' v.ownBlock → (∀ g, v'.ownBlock = some g → v.ownBlock = some g ∨ w.heap.size ≤ g) → wpList P ops Q rest (a.put o.dst v') w') : wpList P ops Q (o :: rest) a w := by
  refine wpList_plain hgd fun K hK => ?_
  obtain ⟨v', w', hr, h2, h3, h4⟩ := h.run_append (P := P) t u o.type i ht hu hi hz hsize hby s hb
  unfold Oper.wp execOp
  simp only [ho, resolve, invoke, builtin, Sem.run_bind, Sem.run_pure, Result.andThen_ok, List.map_toArray, List.map_cons, List.map_nil, hv, hx, hr]
  exact hK _ _ (k v' w' h2 h3 h4)
end
end Go.Proofs.Ytnncbbfbnccnbaa
