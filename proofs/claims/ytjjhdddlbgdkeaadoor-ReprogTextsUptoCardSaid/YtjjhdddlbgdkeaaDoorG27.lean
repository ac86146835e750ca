/- The library's Builder at this dump (its copyCheck cannot be laid off the shelf here): what WriteString and WriteByte do, and what they leave alone. -/
import Derived.Test.YtjjhdddlbgdkeaaDoorG22
import Derived.Test.YtjjhdddlbgdkeaaDoorG21
import Derived.Lib.Builder
import Derived.Lib.AppendStr
import Derived.Laws.Externs
import Derived.WalkKit
namespace Go.Proofs.YtjjhdddlbgdkeaaDoor
open Go.RowKit

theorem info_bld : (Tryd.prog.info? 40).map (fun i => i.size) = some 2 := by kernel_rfl
theorem info_u8B : (Tryd.prog.info? 5).map (fun i => (i.zero, i.size, i.bytes)) = some (some (.int .u8 0), 1, 1) := by kernel_rfl
/-- A builder that holds these bytes. -/
def Bd (B b : Nat) (l : List UInt8) (w : World) : Prop := Lib.IsBuilder 40 5 B b (Lib.byteCells l) w
/-- Every block but this one that is no row of bytes stands as it stood. -/
structure Oth (b : Nat) (w w' : World) : Prop where
  size : w.heap.size ≤ w'.heap.size
  block : ∀ k, k < w.heap.size → k ≠ b → (∀ c f, w.heap[k]? ≠ some (.cells c 5 f)) → w'.heap[k]? = w.heap[k]?
theorem Oth.refl (b : Nat) (w : World) : Oth b w w := ⟨Nat.le_refl _, fun _ _ _ _ => rfl⟩
theorem Oth.trans {b : Nat} {x y z : World} (h : Oth b x y) (k : Oth b y z) : Oth b x z := by
  refine ⟨Nat.le_trans h.size k.size, fun i hi hb hn => ?_⟩
  have h1 := h.block i hi hb hn
  exact (k.block i (Nat.lt_of_lt_of_le hi h.size) hb (fun c f => by rw [h1]; exact hn c f)).trans h1
theorem Oth.of_below {b : Nat} {w w' : World} (h : Below w.heap.size w w') : Oth b w w' := ⟨h.size, fun k hk _ _ => h.block k hk⟩
theorem Row.oth {b : Nat} {w w' : World} {B : Nat} {cs : List Value} {T : TypeId} (h : Row w B cs T) (ho : Oth b w w') (hb : B ≠ b) (hT : T ≠ 5) : Row w' B cs T := by
  refine (ho.block B h.lt hb fun c f e => ?_).trans h
  unfold Row at h
  rw [h] at e
  simp only [Option.some.injEq, Obj.cells.injEq] at e
  exact hT e.2.1
theorem Oth.setCell {b : Nat} {w : World} (o : Nat) (v : Value) : Oth b w (w.setCell ⟨b, o, none⟩ v) := by
  refine ⟨by simp, fun k hk hb _ => ?_⟩
  exact Below.heap_setCell _ _ _ _ hb
theorem Oth.grown {b base n : Nat} {w w' : World} {v : Value} {xs : List Value} (hown : w.ownsRow base 5 1 v n xs) (hg : w.grownBy w' v.ownBlock) : Oth b w w' := by
  refine ⟨hg.size, fun k hk hb hn => hg.block k hk fun e => ?_⟩
  rcases hown.2 with ⟨hv, -⟩ | ⟨g, cap, cur, hv, -, hcur, -⟩
  · rw [hv] at e; cases e
  · rw [hv] at e
    have : k = g := by simpa [Value.ownBlock] using e
    subst this
    exact hn _ _ hcur
set_option maxHeartbeats 1000000 in
set_option maxRecDepth 100000 in
theorem copyCheck_any (B b : Nat) (l : List UInt8) (w : World) (h : Bd B b l w) :
    Calls Tryd.prog 24 #[.pointer (some ⟨b, 0, none⟩)] w fun e w' => e = .returned (.tuple #[]) ∧ Lib.BuilderAt 40 5 B b (.pointer (some ⟨b, 0, none⟩)) (Lib.byteCells l) w' ∧ Below B w w' ∧ Oth b w w' := by
  obtain ⟨j, hj, hjs⟩ := Option.map_eq_some_iff.1 info_bld
  rcases h with h | h
  · have h0 := h.cell0
    have hsh := h.shape
    have hfz := h.frozen0
    have HE : Hid (Lib.BuilderAt 40 5 B b (.pointer (some ⟨b, 0, none⟩)) (Lib.byteCells l) (w.setCell ⟨b, 0, none⟩ (.pointer (some ⟨b, 0, none⟩))) ∧ Below B w (w.setCell ⟨b, 0, none⟩ (.pointer (some ⟨b, 0, none⟩))) ∧ Oth b w (w.setCell ⟨b, 0, none⟩ (.pointer (some ⟨b, 0, none⟩)))) := ⟨h.used _, (Below.refl B w).setCell (p := ⟨b, 0, none⟩) h.1 _, Oth.setCell 0 _⟩
    clear h
    go_enter Tryd.func24, Tryd.ntmps24
    go_wp2
    rw [Lib.run_to_unsafe w ⟨b, 0, none⟩ Tryd.underlying37 Tryd.underlying72 hj (by rw [hjs]; decide) hsh (Nat.zero_lt_succ 1)]
    simp only [Result.andThen]
    rw [Oper.upon_value]
    go_wp2
    rw [run_callFunc_extern Tryd.func34 (by kernel_rfl) (by kernel_rfl) (by kernel_rfl) (e := Extern.AbiNoEscape.same) (by kernel_rfl)]
    rw [Lib.run_noEscape]
    simp only [Result.andThen]
    rw [Oper.upon_value]
    go_wp2
    rw [Lib.run_from_unsafe w ⟨b, 0, none⟩ Tryd.underlying72 Tryd.underlying37 hj hsh (by kernel_rfl)]
    simp only [Result.andThen]
    rw [Oper.upon_value]
    go_wp2
    all_goals (try go_end0)
    all_goals exact ⟨rfl, HE.out⟩
  · have h0 := h.cell0
    have HE := hid h
    clear h
    go_enter Tryd.func24, Tryd.ntmps24
    go_wp2
    rw [Lib.run_neq_ptr_same w _ Tryd.underlying37 hj]
    go_wp2
    all_goals (try go_end0)
    all_goals exact ⟨rfl, HE.out, Below.refl _ _, Oth.refl _ _⟩
theorem Bd.lt {B b : Nat} {l : List UInt8} {w : World} (h : Bd B b l w) : b < w.heap.size := by
  rcases h with h | h <;> exact h.lt
theorem Bd.ge {B b : Nat} {l : List UInt8} {w : World} (h : Bd B b l w) : B ≤ b := by
  rcases h with h | h <;> exact h.1
theorem Bd.more {B b : Nat} {l : List UInt8} {w w' : World} (h : Bd B b l w) (hb : Below w.heap.size w w') : Bd B b l w' := by
  have key : ∀ p, Lib.BuilderAt 40 5 B b p (Lib.byteCells l) w → Lib.BuilderAt 40 5 B b p (Lib.byteCells l) w' := by
    intro p hp
    obtain ⟨h1, v, h2, h3, h4⟩ := id hp
    exact ⟨h1, v, (hb.block b hp.lt).trans h2, ownsRow_heap h3 fun g hg => hb.block g (h3.lt g hg).2, h4⟩
  rcases h with h | h
  · exact .inl (key _ h)
  · exact .inr (key _ h)
theorem bd_new (w : World) : Bd w.heap.size w.heap.size [] (w.alloc (.cells #[.pointer none, .slice none 0 0] 40)) := by
  refine .inl ⟨Nat.le_refl _, .slice none 0 0, ?_, World.ownsRow_nil _ _ _ _, by intro h; cases h⟩
  exact Row.at w [.pointer none, .slice none 0 0] _
theorem bd_set {B b : Nat} {p v v' : Value} {w w' : World} {l : List UInt8} (hB : B ≤ b) (hbk : w.heap[b]? = some (.cells #[p, v] 40 (0, 0))) (hp : p = .pointer (some ⟨b, 0, none⟩)) (hw : w'.heap[b]? = w.heap[b]?) (hown : w'.ownsRow B 5 1 v' l.length (Lib.byteCells l)) :
    Bd B b l (w'.setCell ⟨b, 1, none⟩ v') := by
  subst hp
  have hr : Row w' b [.pointer (some ⟨b, 0, none⟩), v] 40 := hw.trans hbk
  have hne : ∀ g, v'.ownBlock = some g → g ≠ b := by
    intro g hg
    exact hr.ne_own hown (by decide) g hg
  refine .inr ⟨hB, v', hr.set 1 v', ?_, fun e => hne b e rfl⟩
  have h := ownsRow_heap hown fun g hg => Below.heap_setCell w' ⟨b, 1, none⟩ v' g (hne g hg)
  have hl : (Lib.byteCells l).length = l.length := by simp [Lib.byteCells]
  rw [hl]
  exact h
theorem strCells_eq (s : ByteArray) : Lib.strCells s = Lib.byteCells s.data.toList := rfl
theorem byteCells_app (a b : List UInt8) : Lib.byteCells (a ++ b) = Lib.byteCells a ++ Lib.byteCells b := by unfold Lib.byteCells; rw [List.map_append]
set_option maxHeartbeats 2000000 in
set_option maxRecDepth 100000 in
theorem WriteString_any (B b : Nat) (l : List UInt8) (s : ByteArray) (w : World) (h : Bd B b l w) (hl : l.length + s.size ≤ 1000000000) (hBw : B ≤ w.heap.size) :
    Calls Tryd.prog 13 #[.pointer (some ⟨b, 0, none⟩), .string s] w fun e w' => e = .returned (.tuple #[.int .i64 s.size, .nilIface]) ∧ Bd B b (l ++ s.data.toList) w' ∧ Below B w w' ∧ Oth b w w' := by
  obtain ⟨i0, hi, hz0, hz1, hz2⟩ := info_parts info_u8B
  have HCC := hid (copyCheck_any B b l w h)
  have hbl : (Lib.byteCells l).length = l.length := by simp [Lib.byteCells]
  have hsl : s.data.toList.length = s.size := by rw [Array.length_toList]; rfl
  clear h
  go_enter Tryd.func13, Tryd.ntmps13
  go_wp2_with fail
  refine HCC.out.mono ?_
  rintro e w1 ⟨rfl, h1, hb1, ho1⟩
  obtain ⟨hB, v, hbk, hown, hne⟩ := id h1
  rw [hbl] at hown
  have c1 : w1.cell? ⟨b, 1, none⟩ = some v := by rw [Lib.cell_of_heap hbk]; rfl
  have hlt := h1.lt
  have hfz : w1.frozen? ⟨b, 1, none⟩ = false := by simp [World.frozen?, hbk]
  have HB1 := hid hb1
  have HO1 := hid ho1
  have hBs : B ≤ w1.heap.size := Nat.le_trans hBw hb1.size
  have HBK := hid hbk
  have HOW := hid hown
  clear HCC h1 hb1 ho1 hbk hown
  obtain ⟨av, cv, rfl⟩ := ownsRow_shape HOW.out
  go_wp2_with (at_builtin; refine Lib.wpList_append_own_string _ rfl _ _ 38 9 rfl B 5 i0 Tryd.underlying38 Tryd.underlying9 hi hz0 hz1 hz2 _ _ _ rfl HOW.out s rfl (by unfold maxLen; omega) (by omega) hBs ?_)
  intro v' w2 hown2 hg2 _
  rw [strCells_eq, ← byteCells_app, show l.length + s.size = (l ++ s.data.toList).length by rw [List.length_append, hsl]] at hown2
  have hw2 : w2.heap[b]? = w1.heap[b]? := hg2.block b hlt (fun e => hne e.symm)
  obtain ⟨av2, cv2, rfl⟩ := ownsRow_shape hown2
  have HBD := hid (bd_set hB HBK.out rfl hw2 hown2)
  have HB2 : Hid (Below B w (w2.setCell ⟨b, 1, none⟩ (.slice av2 (l ++ s.data.toList).length cv2))) := (HB1.out.grown hg2 (Nat.le_trans hBw HB1.out.size) (fun j hj => (HOW.out.lt j hj).1)).setCell (p := ⟨b, 1, none⟩) hB _
  have HO2 : Hid (Oth b w (w2.setCell ⟨b, 1, none⟩ (.slice av2 (l ++ s.data.toList).length cv2))) := (HO1.out.trans (Oth.grown HOW.out hg2)).trans (Oth.setCell 1 _)
  have hlt2 : b < w2.heap.size := Nat.lt_of_lt_of_le hlt hg2.size
  have c2 : w2.cell? ⟨b, 1, none⟩ = some (.slice av l.length cv) := by simp only [World.cell?, hw2]; exact c1
  have hfz2 : w2.frozen? ⟨b, 1, none⟩ = false := by simp only [World.frozen?, hw2]; exact hfz
  clear hown2 hg2 hw2 c1 hfz hi hz0 hz1 hz2
  generalize (l ++ s.data.toList).length = nl at *
  go_wp2_with fail
  all_goals (try go_ret2)
  all_goals exact ⟨rfl, HBD.out, HB2.out, HO2.out⟩
set_option maxHeartbeats 2000000 in
set_option maxRecDepth 100000 in
theorem WriteByte_any (B b : Nat) (l : List UInt8) (x : UInt8) (w : World) (h : Bd B b l w) (hl : l.length + 1 ≤ 1000000000) (hBw : B ≤ w.heap.size) :
    Calls Tryd.prog 16 #[.pointer (some ⟨b, 0, none⟩), .int .u8 x.toNat] w fun e w' => e = .returned .nilIface ∧ Bd B b (l ++ [x]) w' ∧ Below B w w' ∧ Oth b w w' := by
  obtain ⟨i0, hi, hz0, hz1, hz2⟩ := info_parts info_u8B
  have HCC := hid (copyCheck_any B b l w h)
  have hbl : (Lib.byteCells l).length = l.length := by simp [Lib.byteCells]
  clear h
  go_enter Tryd.func16, Tryd.ntmps16
  go_wp2_with fail
  refine HCC.out.mono ?_
  rintro e w1 ⟨rfl, h1, hb1, ho1⟩
  obtain ⟨hB, v, hbk, hown, hne⟩ := id h1
  rw [hbl] at hown
  have c1 : w1.cell? ⟨b, 1, none⟩ = some v := by rw [Lib.cell_of_heap hbk]; rfl
  have hlt := h1.lt
  have hfz : w1.frozen? ⟨b, 1, none⟩ = false := by simp [World.frozen?, hbk]
  have HB1 := hid hb1
  have HO1 := hid ho1
  have hBs : B ≤ w1.heap.size := Nat.le_trans hBw hb1.size
  have HBK := hid hbk
  have HOW := hid hown
  clear HCC h1 hb1 ho1 hbk hown
  obtain ⟨av, cv, rfl⟩ := ownsRow_shape HOW.out
  have HAL : Hid (Below w1.heap.size w1 (w1.alloc (.cells #[.int .u8 x.toNat] 5))) := Grow.alloc w1 _
  have HOA : Hid ((w1.alloc (.cells #[.int .u8 x.toNat] 5)).ownsRow B 5 1 (.slice av l.length cv) l.length (Lib.byteCells l)) := ownsRow_heap HOW.out fun g hg => HAL.out.block g (HOW.out.lt g hg).2
  go_wp2_with (at_builtin; refine wpList_append_row rfl _ _ 38 rfl B 5 i0 (.int .u8 0) 1 1 Tryd.underlying38 hi hz0 hz1 hz2 rfl (by decide) _ l.length (Lib.byteCells l) rfl HOA.out ⟨w1.heap.size, 0, none⟩ 1 1 [.int .u8 x.toNat] rfl rfl ?c1 ?c2 ?c3 ?c4 ?c5 (by decide) ?_)
  case c1 =>
    intro j u hj
    rw [Addr.add_lit, Nat.zero_add]
    exact (Row.new (w := w1) (cs := [.int .u8 x.toNat]) (T := 5) rfl).cell j ▸ hj
  case c2 => intro u hu; simp at hu; subst hu; rfl
  case c3 => unfold maxLen; omega
  case c4 => omega
  case c5 => simp; omega
  intro av2 cv2 w2 hown2 hg2 hnw
  have hbc : Lib.byteCells l ++ [.int .u8 x.toNat] = Lib.byteCells (l ++ [x]) := by rw [byteCells_app]; rfl
  rw [hbc, show l.length + 1 = (l ++ [x]).length by rw [List.length_append]; rfl] at hown2
  have hw2 : w2.heap[b]? = w1.heap[b]? := (hg2.block b (Nat.lt_of_lt_of_le hlt HAL.out.size) (fun e => hne e.symm)).trans (HAL.out.block b hlt)
  have HBD := hid (bd_set hB HBK.out rfl hw2 hown2)
  have HB2 : Hid (Below B w (w2.setCell ⟨b, 1, none⟩ (.slice av2 (l ++ [x]).length cv2))) := ((HB1.out.trans (HAL.out.mono hBs)).grown hg2 (Nat.le_trans hBs HAL.out.size) (fun j hj => (HOW.out.lt j hj).1)).setCell (p := ⟨b, 1, none⟩) hB _
  have HO2 : Hid (Oth b w (w2.setCell ⟨b, 1, none⟩ (.slice av2 (l ++ [x]).length cv2))) := ((HO1.out.trans (Oth.of_below HAL.out)).trans (Oth.grown HOA.out hg2)).trans (Oth.setCell 1 _)
  have hlt2 : b < w2.heap.size := Nat.lt_of_lt_of_le (Nat.lt_of_lt_of_le hlt HAL.out.size) hg2.size
  have c2 : w2.cell? ⟨b, 1, none⟩ = some (.slice av l.length cv) := by simp only [World.cell?, hw2]; exact c1
  have hfz2 : w2.frozen? ⟨b, 1, none⟩ = false := by simp only [World.frozen?, hw2]; exact hfz
  have hnl : (l ++ [x]).length = l.length + 1 := by rw [List.length_append]; rfl
  rw [hnl] at HBD HB2 HO2
  clear hown2 hg2 hw2 c1 hfz hi hz0 hz1 hz2 hnl
  go_wp2_with fail
  all_goals (try go_ret)
  all_goals exact ⟨rfl, HBD.out, HB2.out, HO2.out⟩
/-- What String hands back. -/
theorem BString_any (B b : Nat) (l : List UInt8) (w : World) (h : Bd B b l w) (hBw : B ≤ w.heap.size) :
    Calls Tryd.prog 17 #[.pointer (some ⟨b, 0, none⟩)] w fun e w' => e = .returned (.string ⟨l.toArray⟩) ∧ Below B w w' := Tryd.Builder_String_any B b l w h hBw
end Go.Proofs.YtjjhdddlbgdkeaaDoor
