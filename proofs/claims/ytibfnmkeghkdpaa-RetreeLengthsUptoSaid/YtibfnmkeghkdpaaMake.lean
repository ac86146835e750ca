/- The law's makers of trees: Byte, Node, Rep. -/
import Derived.Test.YtibfnmkeghkdpaaExpEnd
import Derived.Test.YtibfnmkeghkdpaaCheckRef
import Derived.Laws.IdiomStrings
namespace Go.Proofs.Ytibfnmkeghkdpaa
open Go.RowKit
attribute [local go_sem] gives givesUpon

def byteRe (c : UInt8) : Re := .mk ⟨2, Cs.of [c], 0, 0, 0⟩ []
-- def Z9 := [.int .i64 0, .int .u64 0, .int .u64 0, .int .u64 0, .int .u64 0, .int .i64 0, .int .i64 0, .int .i64 0, .slice none 0 0]
-- def WB := ((w.alloc (.cells #[.int .i64 0, .int .u64 0, .int .u64 0, .int .u64 0, .int .u64 0, .int .i64 0, .int .i64 0, .int .i64 0, .slice none 0 0] 28)).alloc (.cells #[.int .u8 c.toNat] 5))
-- def S9 := [.int .i64 2, .int .u64 (Cs.of [c]).a, .int .u64 (Cs.of [c]).b, .int .u64 (Cs.of [c]).c, .int .u64 (Cs.of [c]).d, .int .i64 0, .int .i64 0, .int .i64 0, .slice none 0 0]
theorem I64_of {n : Int} (h : -64 ≤ n ∧ n ≤ 64) : I64 n := ⟨by omega, by omega⟩
theorem byte_in (c : UInt8) (w : World) : (byteRe c).In w [.int .i64 2, .int .u64 (Cs.of [c]).a, .int .u64 (Cs.of [c]).b, .int .u64 (Cs.of [c]).c, .int .u64 (Cs.of [c]).d, .int .i64 0, .int .i64 0, .int .i64 0, .slice none 0 0] := ((OwnRes.nil w 0 (0 ≤ ·)).node (fun k hk => hk) ⟨2, Cs.of [c], 0, 0, 0⟩ ⟨I64_of (n := 2) (by omega), Cs.of_wf _, I64_of (n := 0) (by omega), I64_of (n := 0) (by omega), I64_of (n := 0) (by omega)⟩).self

set_option maxRecDepth 100000 in
set_option maxHeartbeats 2000000 in
theorem Byte_any (c : UInt8) (w : World) :
    Calls Try.prog 39 #[.int .u8 c.toNat] w fun e w' => e = .returned (.agg #[.int .i64 2, .int .u64 (Cs.of [c]).a, .int .u64 (Cs.of [c]).b, .int .u64 (Cs.of [c]).c, .int .u64 (Cs.of [c]).d, .int .i64 0, .int .i64 0, .int .i64 0, .slice none 0 0]) ∧ Below w.heap.size w w' := by
  have HW : Hid (Row ((w.alloc (.cells #[.int .i64 0, .int .u64 0, .int .u64 0, .int .u64 0, .int .u64 0, .int .i64 0, .int .i64 0, .int .i64 0, .slice none 0 0] 28)).alloc (.cells #[.int .u8 c.toNat] 5)) w.heap.size [.int .i64 0, .int .u64 0, .int .u64 0, .int .u64 0, .int .u64 0, .int .i64 0, .int .i64 0, .int .i64 0, .slice none 0 0] 28 ∧ Row ((w.alloc (.cells #[.int .i64 0, .int .u64 0, .int .u64 0, .int .u64 0, .int .u64 0, .int .i64 0, .int .i64 0, .int .i64 0, .slice none 0 0] 28)).alloc (.cells #[.int .u8 c.toNat] 5)) (w.heap.size + 1) [.int .u8 c.toNat] 5 ∧ Below w.heap.size w ((w.alloc (.cells #[.int .i64 0, .int .u64 0, .int .u64 0, .int .u64 0, .int .u64 0, .int .i64 0, .int .i64 0, .int .i64 0, .slice none 0 0] 28)).alloc (.cells #[.int .u8 c.toNat] 5))) :=
    ⟨(Row.new (cs := [.int .i64 0, .int .u64 0, .int .u64 0, .int .u64 0, .int .u64 0, .int .i64 0, .int .i64 0, .int .i64 0, .slice none 0 0]) rfl).alloc _, Row.new (cs := [.int .u8 c.toNat]) (by simp), ((Below.refl _ w).alloc (Nat.le_refl _) _).alloc (by simp) _⟩
  have hcv : (convert 80 9 (.slice (some ⟨w.heap.size + 1, 0, none⟩) 1 1)).run Try.prog ((w.alloc (.cells #[.int .i64 0, .int .u64 0, .int .u64 0, .int .u64 0, .int .u64 0, .int .i64 0, .int .i64 0, .int .i64 0, .slice none 0 0] 28)).alloc (.cells #[.int .u8 c.toNat] 5)) = .ok (.string ⟨#[c]⟩) ((w.alloc (.cells #[.int .i64 0, .int .u64 0, .int .u64 0, .int .u64 0, .int .u64 0, .int .i64 0, .int .i64 0, .int .i64 0, .slice none 0 0] 28)).alloc (.cells #[.int .u8 c.toNat] 5)) :=
    run_convert_bytes_back _ _ _ 5 ⟨w.heap.size + 1, 0, none⟩ 1 [c] Try.underlying80 Try.underlying5 Try.underlying9 (fun j hj => by
      have hj0 : j = 0 := by simp at hj; exact hj
      subst hj0
      rw [Addr.add_lit]
      exact HW.out.2.1.cell 0)
  go_enter Try.func39, Try.ntmps39
  go_wp2_with fail
  refine (Of_any ⟨#[c]⟩ _ (by show 1 ≤ _; omega)).mono ?_
  rintro e w1 ⟨rfl, hb⟩
  have hr := HW.out.1.below hb (by simp; omega)
  have q1 := hr.c9
  have z1 := hr.lt
  have HR := hid hr
  have HB : Hid (Below w.heap.size w w1) := HW.out.2.2.trans (hb.mono (by simp; omega))
  have hof := Cs.of_wf [c]
  clear hb hr hcv HW
  have e0 : (ByteArray.mk #[c]).data.toList = [c] := rfl
  rw [e0]
  generalize hS : Cs.of [c] = S at *
  have HS := hid hS
  clear hS hof
  go_wp2_with fail
  refine ret_row 2 28 rfl w.heap.size rfl [.int .i64 2, .int .u64 S.a, .int .u64 S.b, .int .u64 S.c, .int .u64 S.d, .int .i64 0, .int .i64 0, .int .i64 0, .slice none 0 0] (CellsAt.of_row (T := 28) (HR.out.set9 _ _ _ _ _ _ _ _ _)) _ Try.underlying28 rfl (size_relen rfl) rfl ?_
  rw [HS.out]
  exact ⟨rfl, below9 HB.out (Nat.le_refl _) _ _ _ _ _ _ _ _ _⟩

set_option maxHeartbeats 2000000 in
theorem Node_any (op : Int) (ad : Option Addr) (n cap : Nat) (w : World) :
    Calls Try.prog 31 #[.int .i64 op, .slice ad n cap] w fun e w' => e = .returned (.agg #[.int .i64 op, .int .u64 0, .int .u64 0, .int .u64 0, .int .u64 0, .int .i64 0, .int .i64 0, .int .i64 0, .slice ad n cap]) ∧ Below w.heap.size w w' := by
  go_enter Try.func31, Try.ntmps31
  go_wp2_with fail
  refine ret_row 4 28 rfl w.heap.size rfl [.int .i64 op, .int .u64 0, .int .u64 0, .int .u64 0, .int .u64 0, .int .i64 0, .int .i64 0, .int .i64 0, .slice ad n cap] (CellsAt.of_row (T := 28) (Row.at _ _ _)) _ Try.underlying28 rfl (size_relen rfl) rfl ?_
  exact ⟨rfl, (Below.refl _ w).alloc (Nat.le_refl _) _⟩

-- def BL := [.int .i64 p.op, .int .u64 p.set.a, .int .u64 p.set.b, .int .u64 p.set.c, .int .u64 p.set.d, .int .i64 p.lo, .int .i64 p.hi, .int .i64 p.gr, .slice ad m cap]
-- def R9 := [.int .i64 5, .int .u64 0, .int .u64 0, .int .u64 0, .int .u64 0, .int .i64 lo, .int .i64 hi, .int .i64 0, .slice (some ⟨w.heap.size + 1 + 1, 0, none⟩) 1 1]
-- def W3 := (((w.alloc (.cells #[.int .i64 p.op, .int .u64 p.set.a, .int .u64 p.set.b, .int .u64 p.set.c, .int .u64 p.set.d, .int .i64 p.lo, .int .i64 p.hi, .int .i64 p.gr, .slice ad m cap] 28)).alloc (.cells #[.int .i64 5, .int .u64 0, .int .u64 0, .int .u64 0, .int .u64 0, .int .i64 lo, .int .i64 hi, .int .i64 0, .slice (some ⟨w.heap.size + 1 + 1, 0, none⟩) 1 1] 28)).alloc (.cells #[.int .i64 p.op, .int .u64 p.set.a, .int .u64 p.set.b, .int .u64 p.set.c, .int .u64 p.set.d, .int .i64 p.lo, .int .i64 p.hi, .int .i64 p.gr, .slice ad m cap] 28))
set_option maxHeartbeats 2000000 in
theorem Rep_any (t : Re) (lo hi : Int) (w : World) (cs : List Value) (hx : t.In w cs) (hlo : -1 ≤ lo ∧ lo ≤ 64) (hhi : -1 ≤ hi ∧ hi ≤ 64) :
    Calls Try.prog 40 #[.int .i64 lo, .int .i64 hi, .agg cs.toArray] w fun e w' => ∃ cs', e = .returned (.agg cs'.toArray) ∧ (t.rept lo hi).In w' cs' ∧ Below w.heap.size w w' := by
  obtain ⟨p, ad, m, cap, rfl⟩ := Re.cells_shape hx
  have HX := hid hx.all
  have HW : Hid (Row (((w.alloc (.cells #[.int .i64 p.op, .int .u64 p.set.a, .int .u64 p.set.b, .int .u64 p.set.c, .int .u64 p.set.d, .int .i64 p.lo, .int .i64 p.hi, .int .i64 p.gr, .slice ad m cap] 28)).alloc (.cells #[.int .i64 5, .int .u64 0, .int .u64 0, .int .u64 0, .int .u64 0, .int .i64 lo, .int .i64 hi, .int .i64 0, .slice (some ⟨w.heap.size + 1 + 1, 0, none⟩) 1 1] 28)).alloc (.cells #[.int .i64 p.op, .int .u64 p.set.a, .int .u64 p.set.b, .int .u64 p.set.c, .int .u64 p.set.d, .int .i64 p.lo, .int .i64 p.hi, .int .i64 p.gr, .slice ad m cap] 28)) (w.heap.size + 1) [.int .i64 5, .int .u64 0, .int .u64 0, .int .u64 0, .int .u64 0, .int .i64 lo, .int .i64 hi, .int .i64 0, .slice (some ⟨w.heap.size + 1 + 1, 0, none⟩) 1 1] 28 ∧ Row (((w.alloc (.cells #[.int .i64 p.op, .int .u64 p.set.a, .int .u64 p.set.b, .int .u64 p.set.c, .int .u64 p.set.d, .int .i64 p.lo, .int .i64 p.hi, .int .i64 p.gr, .slice ad m cap] 28)).alloc (.cells #[.int .i64 5, .int .u64 0, .int .u64 0, .int .u64 0, .int .u64 0, .int .i64 lo, .int .i64 hi, .int .i64 0, .slice (some ⟨w.heap.size + 1 + 1, 0, none⟩) 1 1] 28)).alloc (.cells #[.int .i64 p.op, .int .u64 p.set.a, .int .u64 p.set.b, .int .u64 p.set.c, .int .u64 p.set.d, .int .i64 p.lo, .int .i64 p.hi, .int .i64 p.gr, .slice ad m cap] 28)) (w.heap.size + 1 + 1) [.int .i64 p.op, .int .u64 p.set.a, .int .u64 p.set.b, .int .u64 p.set.c, .int .u64 p.set.d, .int .i64 p.lo, .int .i64 p.hi, .int .i64 p.gr, .slice ad m cap] 28 ∧ Below w.heap.size w (((w.alloc (.cells #[.int .i64 p.op, .int .u64 p.set.a, .int .u64 p.set.b, .int .u64 p.set.c, .int .u64 p.set.d, .int .i64 p.lo, .int .i64 p.hi, .int .i64 p.gr, .slice ad m cap] 28)).alloc (.cells #[.int .i64 5, .int .u64 0, .int .u64 0, .int .u64 0, .int .u64 0, .int .i64 lo, .int .i64 hi, .int .i64 0, .slice (some ⟨w.heap.size + 1 + 1, 0, none⟩) 1 1] 28)).alloc (.cells #[.int .i64 p.op, .int .u64 p.set.a, .int .u64 p.set.b, .int .u64 p.set.c, .int .u64 p.set.d, .int .i64 p.lo, .int .i64 p.hi, .int .i64 p.gr, .slice ad m cap] 28))) :=
    ⟨(Row.new (cs := [.int .i64 5, .int .u64 0, .int .u64 0, .int .u64 0, .int .u64 0, .int .i64 lo, .int .i64 hi, .int .i64 0, .slice (some ⟨w.heap.size + 1 + 1, 0, none⟩) 1 1]) (by simp)).alloc _, Row.new (cs := [.int .i64 p.op, .int .u64 p.set.a, .int .u64 p.set.b, .int .u64 p.set.c, .int .u64 p.set.d, .int .i64 p.lo, .int .i64 p.hi, .int .i64 p.gr, .slice ad m cap]) (by simp), (((Below.refl _ w).alloc (Nat.le_refl _) _).alloc (by simp) _).alloc (by simp; omega) _⟩
  clear hx
  go_enter Try.func40, Try.ntmps40
  go_wp2_with fail
  refine ret_row 6 28 rfl (w.heap.size + 1) rfl [.int .i64 5, .int .u64 0, .int .u64 0, .int .u64 0, .int .u64 0, .int .i64 lo, .int .i64 hi, .int .i64 0, .slice (some ⟨w.heap.size + 1 + 1, 0, none⟩) 1 1] (CellsAt.of_row (T := 28) HW.out.1) _ Try.underlying28 rfl (size_re9 _ _ _ _ _ _ _ _ _) rfl ?_
  have hb := HW.out.2.2
  refine ⟨[.int .i64 5, .int .u64 0, .int .u64 0, .int .u64 0, .int .u64 0, .int .i64 lo, .int .i64 hi, .int .i64 0, .slice (some ⟨w.heap.size + 1 + 1, 0, none⟩) 1 1], rfl, ?_, hb⟩
  exact (OwnRes.node (OwnRes.same (S := fun k => True) (n := 1) (base := w.heap.size) HW.out.2.1 (by omega) (by decide) (by simp) (HX.out.step hb.size fun k hk hl => ⟨⟨trivial, by omega⟩, hb.block k hl⟩)) (fun k hk => trivial) (Pay.ofRep lo hi) (Pay.ofRep_wf ⟨by omega, by omega⟩ ⟨by omega, by omega⟩)).self

/-- A node over two trees that lie side by side. -/
theorem node2_in {w : World} {B : Nat} {p : Pay} {t1 t2 : Re} {c1 c2 cs : List Value} (hp : p.wf) (hr : Row w B (c1 ++ c2) 28) (h1 : t1.In w c1) (h2 : t2.In w c2) (hc : cs = p.cells (.slice (some ⟨B, 0, none⟩) 2 2)) : (Re.mk p [t1, t2]).In w cs := by
  subst hc
  rw [Re.In]
  have n1 := h1.nine
  refine ⟨some ⟨B, 0, none⟩, 2, rfl, hp, Nat.le_refl _, by decide, (fun h => by cases h), ?_⟩
  rw [Re.AllIn, Re.AllIn, Re.AllIn]
  refine ⟨⟨B, 0, c1, rfl, fun j v hj => ?_, h1⟩, ⟨B, 0, c2, rfl, fun j v hj => ?_, h2⟩, trivial⟩
  · have hjl := (List.getElem?_eq_some_iff.1 hj).1
    rw [hr.cell, List.getElem?_append_left (by omega)]
    simpa using hj
  · rw [hr.cell, List.getElem?_append_right (by omega), ← hj]
    congr 1
    omega

/-- The tree of the first example: a(b|cd){2,3}. -/
def E0 : Re := .mk (Pay.of 3) [byteRe 97, (Re.mk (Pay.of 4) [byteRe 98, .mk (Pay.of 3) [byteRe 99, byteRe 100]]).rept 2 3]
theorem E0_facts : E0.facts = ⟨false, 3, 7, Cs.of [97]⟩ := by decide
theorem E0_err : E0.err = 0 := by decide
end Go.Proofs.Ytibfnmkeghkdpaa
