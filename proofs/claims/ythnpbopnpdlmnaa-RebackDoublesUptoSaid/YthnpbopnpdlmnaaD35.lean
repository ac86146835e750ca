/- Reback's laws: the first examples of the chapter hold. -/
import Derived.Test.YthnpbopnpdlmnaaD23
import Derived.Test.YthnpbopnpdlmnaaD34
import Derived.Test.YthnpbopnpdlmnaaD22
namespace Go.Proofs.Ythnpbopnpdlmnaa
open Go.RowKit
attribute [local go_sem] gives givesUpon

def runAt (s : List UInt8) (lines : Bool) (e : Re) (N at_ : Nat) : Nat → Nat → Option (Out × Nat)
  | 0, n => some (.fail, n)
  | c + 1, n => match runJ s lines 100 (.try e at_ (at_ + c)) (unsetAll N) .done n with
    | some (.found l, m) => some (.found (((at_ : Int), ((at_ + c : Nat) : Int)) :: l), m)
    | some (.fail, m) => runAt s lines e N at_ c m
    | some (.over, m) => some (.over, m)
    | none => none
theorem runAt_sound (s : List UInt8) (lines : Bool) (e : Re) (N at_ : Nat) : ∀ (c n : Nat) (o : Out) (m : Nat), runAt s lines e N at_ c n = some (o, m) → EvAt s lines e N at_ c n o m
  | 0, n, o, m, h => by simp only [runAt, Option.some.injEq, Prod.mk.injEq] at h; obtain ⟨rfl, rfl⟩ := h; exact .none
  | c + 1, n, o, m, h => by
    simp only [runAt] at h
    split at h
    · rename_i l m' hx
      simp only [Option.some.injEq, Prod.mk.injEq] at h
      obtain ⟨rfl, rfl⟩ := h
      exact .hit (runJ_sound _ _ _ _ _ _ _ _ _ hx)
    · rename_i m' hx
      exact .miss (runJ_sound _ _ _ _ _ _ _ _ _ hx) (runAt_sound s lines e N at_ c m' o m h)
    · rename_i m' hx
      simp only [Option.some.injEq, Prod.mk.injEq] at h
      obtain ⟨rfl, rfl⟩ := h
      exact .over (runJ_sound _ _ _ _ _ _ _ _ _ hx)
    · cases h
def T1 : Re := nodeT 3 0 [nodeT 6 1 [byteT 97], nodeT 9 1 []]
def T3 : Re := nodeT 3 0 [byteT 97, byteT 98]
def sAA : ByteArray := ⟨#[97, 97]⟩
def sAB : ByteArray := ⟨#[97, 98]⟩
theorem api1 {o : Out} {k x : Int} (h : Api T1 sAA 0 (fun _ => 1) false 1000 o k x) : o = .found [(0, 2), (0, 1)] ∧ x = 0 := by
  have e : Api T1 sAA 0 (fun _ => 1) false 1000 (.found [(0, 2), (0, 1)]) 6 0 := .inr ⟨by kernel_rfl, 994, by omega, .hit (runAt_sound _ _ _ _ _ 3 _ _ _ (by kernel_rfl)) (by intro h; cases h), by kernel_rfl, rfl⟩
  obtain ⟨h1, h2, h3⟩ := h.det e
  exact ⟨h1, h3⟩
theorem api2 {o : Out} {k x : Int} (h : Api (byteT 97) sAB 0 (fun _ => 1) false 1000 o k x) : o = .found [(0, 1)] ∧ k = 2 ∧ x = 0 := by
  have e : Api (byteT 97) sAB 0 (fun _ => 1) false 1000 (.found [(0, 1)]) 2 0 := .inr ⟨by kernel_rfl, 998, by omega, .hit (runAt_sound _ _ _ _ _ 3 _ _ _ (by kernel_rfl)) (by intro h; cases h), by kernel_rfl, rfl⟩
  exact h.det e
theorem api3 {o : Out} {k x : Int} (h : Api T3 sAB 0 (fun _ => 1) false 4 o k x) : o = .found [(0, 2)] ∧ k = 4 ∧ x = 0 := by
  have e : Api T3 sAB 0 (fun _ => 1) false 4 (.found [(0, 2)]) 4 0 := .inr ⟨by kernel_rfl, 0, by omega, .hit (runAt_sound _ _ _ _ _ 3 _ _ _ (by kernel_rfl)) (by intro h; cases h), by kernel_rfl, rfl⟩
  exact h.det e


structure Kp (N0 : Nat) (T : TypeId) (x y : World) : Prop where
  os : y.os = x.os
  tape : y.tape = x.tape
  output : y.output = x.output
  size : x.heap.size ≤ y.heap.size
  block : ∀ k, k < x.heap.size → (k < N0 ∨ ∀ cs fz, x.heap[k]? ≠ some (.cells cs T fz)) → y.heap[k]? = x.heap[k]?
  row : ∀ k u, Row x k [u] T → ∃ u', Row y k [u'] T
theorem Kp.refl (N0 : Nat) (T : TypeId) (x : World) : Kp N0 T x x := ⟨rfl, rfl, rfl, Nat.le_refl _, fun _ _ _ => rfl, fun _ u h => ⟨u, h⟩⟩
theorem Kp.trans {N0 : Nat} {T : TypeId} {x y z : World} (h : Kp N0 T x y) (k : Kp N0 T y z) : Kp N0 T x z := by
  refine ⟨k.os.trans h.os, k.tape.trans h.tape, k.output.trans h.output, Nat.le_trans h.size k.size, fun i hi ho => ?_, fun i u hr => ?_⟩
  · have e := h.block i hi ho
    rw [← e]
    exact k.block i (Nat.lt_of_lt_of_le hi h.size) (ho.imp id fun ho => by rw [e]; exact ho)
  · obtain ⟨u', hr'⟩ := h.row i u hr
    exact k.row i u' hr'
theorem Kp.of_grow {N0 : Nat} {T : TypeId} {x y : World} (h : Grow x y) : Kp N0 T x y := ⟨h.os, h.tape, h.output, h.size, fun k hk _ => h.block k hk, fun _ u hr => ⟨u, hr.below h hr.lt⟩⟩
theorem Row.kp {N0 : Nat} {T U : TypeId} {x y : World} {b : Nat} {cs : List Value} (h : Row x b cs U) (hk : Kp N0 T x y) (hU : U ≠ T) : Row y b cs U :=
  (hk.block b h.lt (.inr fun cs' fz e => hU (by have := h.symm.trans e; injection this with this; injection this))).trans h
theorem Kp.set {N0 : Nat} {T : TypeId} {x : World} {b : Nat} {u v : Value} (h : Row x b [u] T) (hb : N0 ≤ b) : Kp N0 T x (x.setCell ⟨b, 0, none⟩ v) := by
  refine ⟨rfl, rfl, rfl, by simp [World.setCell], fun k hk ho => ?_, fun k u' hr => ?_⟩
  · refine Below.heap_setCell _ _ _ _ fun e => ?_
    subst e
    rcases ho with ho | ho
    · omega
    · exact ho _ _ h
  · by_cases e : k = b
    · subst e
      exact ⟨v, hr.set 0 v⟩
    · exact ⟨u', hr.other e _ _⟩
theorem Kp.drew {N0 : Nat} {T : TypeId} {x y : World} (h : Kp N0 T x.drew y) : Kp N0 T x y := ⟨h.os, h.tape, h.output, h.size, h.block, h.row⟩
theorem Kp.below {N0 : Nat} {T : TypeId} {x y : World} (h : Kp N0 T x y) (hN : N0 ≤ x.heap.size) : Below N0 x y := ⟨h.os, h.tape, h.output, h.size, fun k hk => h.block k (by omega) (.inl hk)⟩
theorem nilT_in (op gr : Int) (hop : I64 op) (hgr : I64 gr) (w : World) : (nodeT op gr []).In w [.int .i64 op, .int .u64 0, .int .u64 0, .int .u64 0, .int .u64 0, .int .i64 0, .int .i64 0, .int .i64 gr, .slice none 0 0] := by
  unfold nodeT
  rw [Re.In]
  exact ⟨none, 0, rfl, ⟨hop, Cs.none_wf, by unfold I64; dsimp only; omega, by unfold I64; dsimp only; omega, hgr⟩, Nat.le_refl _, by unfold maxLen; omega, fun _ => rfl, by rw [Re.AllIn]; trivial⟩
theorem t1_in {w : World} {gb cb : Nat} (h1 : Row w gb (byteC 97) 28) (h2 : Row w cb ([.int .i64 6, .int .u64 0, .int .u64 0, .int .u64 0, .int .u64 0, .int .i64 0, .int .i64 0, .int .i64 1, .slice (some ⟨gb, 0, none⟩) 1 1] ++ [.int .i64 9, .int .u64 0, .int .u64 0, .int .u64 0, .int .u64 0, .int .i64 0, .int .i64 0, .int .i64 1, .slice none 0 0]) 28) :
    T1.In w [.int .i64 3, .int .u64 0, .int .u64 0, .int .u64 0, .int .u64 0, .int .i64 0, .int .i64 0, .int .i64 0, .slice (some ⟨cb, 0, none⟩) 2 2] := by
  have hg := node_in (w := w) (b := gb) (T := 28) 6 1 (by unfold I64; omega) (by unfold I64; omega) [(byteT 97, byteC 97)] (by simpa using h1) (by simp) (fun e he => by rw [List.mem_singleton.1 he]; exact byteT_in 97 w)
  have hb := nilT_in 9 1 (by unfold I64; omega) (by unfold I64; omega) w
  exact node_in (w := w) (b := cb) (T := 28) 3 0 (by unfold I64; omega) (by unfold I64; omega) [(nodeT 6 1 [byteT 97], [.int .i64 6, .int .u64 0, .int .u64 0, .int .u64 0, .int .u64 0, .int .i64 0, .int .i64 0, .int .i64 1, .slice (some ⟨gb, 0, none⟩) 1 1]), (nodeT 9 1 [], [.int .i64 9, .int .u64 0, .int .u64 0, .int .u64 0, .int .u64 0, .int .i64 0, .int .i64 0, .int .i64 1, .slice none 0 0])] (by simpa using h2) (by simp) (fun e he => by
    rcases List.mem_cons.1 he with rfl | he
    · exact hg
    · rw [List.mem_singleton.1 he]; exact hb)
theorem t3_in {w : World} {cb : Nat} (h2 : Row w cb (byteC 97 ++ byteC 98) 28) :
    T3.In w [.int .i64 3, .int .u64 0, .int .u64 0, .int .u64 0, .int .u64 0, .int .i64 0, .int .i64 0, .int .i64 0, .slice (some ⟨cb, 0, none⟩) 2 2] :=
  node_in (w := w) (b := cb) (T := 28) 3 0 (by unfold I64; omega) (by unfold I64; omega) [(byteT 97, byteC 97), (byteT 98, byteC 98)] (by simpa using h2) (by simp) (fun e he => by
    rcases List.mem_cons.1 he with rfl | he
    · exact byteT_in 97 w
    · rw [List.mem_singleton.1 he]; exact byteT_in 98 w)
set_option maxRecDepth 100000 in
set_option maxHeartbeats 8000000 in
theorem awakeB_any (w : World) : Calls Try.prog 11 #[] w fun e w' => e = .returned (.bool true) ∧ Below w.heap.size w w' := by
  have HBY := hid (fun (x : World) => Byte_any x 97)
  have HBY2 := hid (fun (x : World) => Byte_any x 98)
  have HNO := hid (fun (x : World) (op : Int) (a : Option Addr) (n c : Nat) => Node_any x op a n c)
  have e97 : ((97 : UInt8).toNat : Int) = 97 := by decide
  have e98 : ((98 : UInt8).toNat : Int) = 98 := by decide
  rw [e97] at HBY
  rw [e98] at HBY2
  clear e97 e98
  go_enter Try.func11, Try.ntmps11
  go_wp2_with fail
  refine (HBY.out _).mono ?_
  rintro e w1 ⟨rfl, hb1⟩
  have HB1 := hid hb1
  clear hb1
  go_wp2_with fail
  refine (HNO.out _ 3 (some ⟨w1.heap.size + 1 + 1 + 1, 0, none⟩) 2 2).mono ?_
  rintro e w5 ⟨rfl, hb5⟩
  have hz : (((((w1.alloc (.cells #[.int .i64 2, .int .u64 (Cs.of [97]).a, .int .u64 (Cs.of [97]).b, .int .u64 (Cs.of [97]).c, .int .u64 (Cs.of [97]).d, .int .i64 0, .int .i64 0, .int .i64 0, .slice none 0 0] 28)).alloc (.cells #[.int .i64 2, .int .u64 (Cs.of [97]).a, .int .u64 (Cs.of [97]).b, .int .u64 (Cs.of [97]).c, .int .u64 (Cs.of [97]).d, .int .i64 0, .int .i64 0, .int .i64 0, .slice none 0 0] 28)).alloc (.cells #[.int .i64 6, .int .u64 0, .int .u64 0, .int .u64 0, .int .u64 0, .int .i64 0, .int .i64 0, .int .i64 1, .slice (some ⟨w1.heap.size + 1, 0, none⟩) 1 1] 28)).alloc (.cells #[.int .i64 6, .int .u64 0, .int .u64 0, .int .u64 0, .int .u64 0, .int .i64 0, .int .i64 0, .int .i64 1, .slice (some ⟨w1.heap.size + 1, 0, none⟩) 1 1, .int .i64 9, .int .u64 0, .int .u64 0, .int .u64 0, .int .u64 0, .int .i64 0, .int .i64 0, .int .i64 1, .slice none 0 0] 28))).heap.size = w1.heap.size + 4 := by simp
  have r0 : Row ((((w1.alloc (.cells #[.int .i64 2, .int .u64 (Cs.of [97]).a, .int .u64 (Cs.of [97]).b, .int .u64 (Cs.of [97]).c, .int .u64 (Cs.of [97]).d, .int .i64 0, .int .i64 0, .int .i64 0, .slice none 0 0] 28)).alloc (.cells #[.int .i64 2, .int .u64 (Cs.of [97]).a, .int .u64 (Cs.of [97]).b, .int .u64 (Cs.of [97]).c, .int .u64 (Cs.of [97]).d, .int .i64 0, .int .i64 0, .int .i64 0, .slice none 0 0] 28)).alloc (.cells #[.int .i64 6, .int .u64 0, .int .u64 0, .int .u64 0, .int .u64 0, .int .i64 0, .int .i64 0, .int .i64 1, .slice (some ⟨w1.heap.size + 1, 0, none⟩) 1 1] 28)).alloc (.cells #[.int .i64 6, .int .u64 0, .int .u64 0, .int .u64 0, .int .u64 0, .int .i64 0, .int .i64 0, .int .i64 1, .slice (some ⟨w1.heap.size + 1, 0, none⟩) 1 1, .int .i64 9, .int .u64 0, .int .u64 0, .int .u64 0, .int .u64 0, .int .i64 0, .int .i64 0, .int .i64 1, .slice none 0 0] 28)) w1.heap.size (byteC 97) 28 := (((Row.new (w := w1) (cs := [.int .i64 2, .int .u64 (Cs.of [97]).a, .int .u64 (Cs.of [97]).b, .int .u64 (Cs.of [97]).c, .int .u64 (Cs.of [97]).d, .int .i64 0, .int .i64 0, .int .i64 0, .slice none 0 0]) rfl).alloc _).alloc _).alloc _
  have r1 : Row ((((w1.alloc (.cells #[.int .i64 2, .int .u64 (Cs.of [97]).a, .int .u64 (Cs.of [97]).b, .int .u64 (Cs.of [97]).c, .int .u64 (Cs.of [97]).d, .int .i64 0, .int .i64 0, .int .i64 0, .slice none 0 0] 28)).alloc (.cells #[.int .i64 2, .int .u64 (Cs.of [97]).a, .int .u64 (Cs.of [97]).b, .int .u64 (Cs.of [97]).c, .int .u64 (Cs.of [97]).d, .int .i64 0, .int .i64 0, .int .i64 0, .slice none 0 0] 28)).alloc (.cells #[.int .i64 6, .int .u64 0, .int .u64 0, .int .u64 0, .int .u64 0, .int .i64 0, .int .i64 0, .int .i64 1, .slice (some ⟨w1.heap.size + 1, 0, none⟩) 1 1] 28)).alloc (.cells #[.int .i64 6, .int .u64 0, .int .u64 0, .int .u64 0, .int .u64 0, .int .i64 0, .int .i64 0, .int .i64 1, .slice (some ⟨w1.heap.size + 1, 0, none⟩) 1 1, .int .i64 9, .int .u64 0, .int .u64 0, .int .u64 0, .int .u64 0, .int .i64 0, .int .i64 0, .int .i64 1, .slice none 0 0] 28)) (w1.heap.size + 1) (byteC 97) 28 := ((Row.new (w := w1.alloc _) (cs := [.int .i64 2, .int .u64 (Cs.of [97]).a, .int .u64 (Cs.of [97]).b, .int .u64 (Cs.of [97]).c, .int .u64 (Cs.of [97]).d, .int .i64 0, .int .i64 0, .int .i64 0, .slice none 0 0]) (by simp)).alloc _).alloc _
  have r3 : Row ((((w1.alloc (.cells #[.int .i64 2, .int .u64 (Cs.of [97]).a, .int .u64 (Cs.of [97]).b, .int .u64 (Cs.of [97]).c, .int .u64 (Cs.of [97]).d, .int .i64 0, .int .i64 0, .int .i64 0, .slice none 0 0] 28)).alloc (.cells #[.int .i64 2, .int .u64 (Cs.of [97]).a, .int .u64 (Cs.of [97]).b, .int .u64 (Cs.of [97]).c, .int .u64 (Cs.of [97]).d, .int .i64 0, .int .i64 0, .int .i64 0, .slice none 0 0] 28)).alloc (.cells #[.int .i64 6, .int .u64 0, .int .u64 0, .int .u64 0, .int .u64 0, .int .i64 0, .int .i64 0, .int .i64 1, .slice (some ⟨w1.heap.size + 1, 0, none⟩) 1 1] 28)).alloc (.cells #[.int .i64 6, .int .u64 0, .int .u64 0, .int .u64 0, .int .u64 0, .int .i64 0, .int .i64 0, .int .i64 1, .slice (some ⟨w1.heap.size + 1, 0, none⟩) 1 1, .int .i64 9, .int .u64 0, .int .u64 0, .int .u64 0, .int .u64 0, .int .i64 0, .int .i64 0, .int .i64 1, .slice none 0 0] 28)) (w1.heap.size + 1 + 1 + 1) ([.int .i64 6, .int .u64 0, .int .u64 0, .int .u64 0, .int .u64 0, .int .i64 0, .int .i64 0, .int .i64 1, .slice (some ⟨w1.heap.size + 1, 0, none⟩) 1 1, .int .i64 9, .int .u64 0, .int .u64 0, .int .u64 0, .int .u64 0, .int .i64 0, .int .i64 0, .int .i64 1, .slice none 0 0]) 28 := Row.new (by simp)
  have hb4 : Below w.heap.size w ((((w1.alloc (.cells #[.int .i64 2, .int .u64 (Cs.of [97]).a, .int .u64 (Cs.of [97]).b, .int .u64 (Cs.of [97]).c, .int .u64 (Cs.of [97]).d, .int .i64 0, .int .i64 0, .int .i64 0, .slice none 0 0] 28)).alloc (.cells #[.int .i64 2, .int .u64 (Cs.of [97]).a, .int .u64 (Cs.of [97]).b, .int .u64 (Cs.of [97]).c, .int .u64 (Cs.of [97]).d, .int .i64 0, .int .i64 0, .int .i64 0, .slice none 0 0] 28)).alloc (.cells #[.int .i64 6, .int .u64 0, .int .u64 0, .int .u64 0, .int .u64 0, .int .i64 0, .int .i64 0, .int .i64 1, .slice (some ⟨w1.heap.size + 1, 0, none⟩) 1 1] 28)).alloc (.cells #[.int .i64 6, .int .u64 0, .int .u64 0, .int .u64 0, .int .u64 0, .int .i64 0, .int .i64 0, .int .i64 1, .slice (some ⟨w1.heap.size + 1, 0, none⟩) 1 1, .int .i64 9, .int .u64 0, .int .u64 0, .int .u64 0, .int .u64 0, .int .i64 0, .int .i64 0, .int .i64 1, .slice none 0 0] 28)) := (((HB1.out.alloc HB1.out.size _).alloc (by have := HB1.out.size; simp; omega) _).alloc (by have := HB1.out.size; simp; omega) _).alloc (by have := HB1.out.size; simp; omega) _
  have hs1 := HB1.out.size
  have HX5 := hid (⟨r0.below hb5 (by rw [hz]; omega), r1.below hb5 (by rw [hz]; omega), r3.below hb5 (by rw [hz]; omega), hb4.trans (hb5.mono (by rw [hz]; omega))⟩ : Row w5 _ _ _ ∧ Row w5 _ _ _ ∧ Row w5 _ _ _ ∧ Below _ _ w5)
  clear r0 r1 r3 hb4 hb5 hz HB1
  go_wp2_with fail
  refine (BAt_any w5 T1 _ sAA 0 false 1000 1000 (t1_in HX5.out.2.1 HX5.out.2.2.1) (by decide +kernel) (by decide) (by decide) (by omega)).mono ?_
  rintro e w6 ⟨o, k, x, v, ha, rfl, hb6, hf1, -⟩
  obtain ⟨rfl, rfl⟩ := api1 ha
  rcases hf1 _ rfl with ⟨h0, -⟩ | ⟨-, sb, sc, more, rfl, hsb, hsr⟩
  · cases h0
  have HX6 := hid (⟨HX5.out.1.below hb6 HX5.out.1.lt, hsr, HX5.out.2.2.2.trans (hb6.mono HX5.out.2.2.2.size)⟩ : Row w6 _ _ _ ∧ Row w6 _ _ _ ∧ Below _ _ w6)
  have q6 := HX6.out.1.c9
  have hz6 := HX6.out.1.lt
  have hzs := hsr.lt
  clear HX5 hb6 hf1 hsr ha hsb
  simp only [Out.isFound]
  go_wp2_with fail
  have hb7 : Below w6.heap.size w6 (w6.alloc (.cells #[.slice (some ⟨sb, 0, none⟩) 2 sc] 43)) := (Below.refl _ _).alloc (Nat.le_refl _) _
  refine (BAt_any _ (byteT 97) _ sAB 0 false 1000 1000 (byteT_in 97 _) (by decide +kernel) (by decide) (by decide) (by omega)).mono ?_
  rintro e w7 ⟨o, k2, x, v, ha, rfl, hb8, hf1, -⟩
  obtain ⟨rfl, rfl, rfl⟩ := api2 ha
  rcases hf1 _ rfl with ⟨h0, -⟩ | ⟨-, sb2, sc2, more2, rfl, hsb2, hsr2⟩
  · cases h0
  have hb78 := hb7.trans (hb8.mono (by simp))
  have HX7 := hid (⟨HX6.out.1.below hb78 HX6.out.1.lt, HX6.out.2.1.below hb78 HX6.out.2.1.lt, (Row.new (w := w6) (cs := [.slice (some ⟨sb, 0, none⟩) 2 sc]) (T := 43) rfl).below hb8 (by simp), HX6.out.2.2.trans (hb78.mono HX6.out.2.2.size)⟩ : Row w7 _ _ _ ∧ Row w7 _ _ _ ∧ Row w7 _ _ _ ∧ Below _ _ w7)
  have hz7 := HX7.out.1.lt
  have hz71 := HX7.out.2.1.lt
  have hz72 := HX7.out.2.2.1.lt
  clear HX6 hb7 hb8 hb78 hf1 hsr2 ha hsb2 q6 hz6 hzs
  simp only [Out.isFound]
  go_wp2_with fail
  have HC := hid (fun (x : World) (hx : Kp w7.heap.size 43 (w7.alloc (.cells #[.slice (some ⟨sb2, 0, none⟩) 1 sc2] 43)).drew x) => ((HX7.out.1.alloc (.cells #[.slice (some ⟨sb2, 0, none⟩) 1 sc2] 43)).kp hx.drew (by decide)).c9.1)
  clear hz7 hz71 hz72
  refine wp_region_inv 15 (Kp w7.heap.size 43) (by kernel_rfl) (by kernel_rfl) (Kp.refl _ _) (fun _ _ _ => Kp.trans) ?_
  simp only [fill, dstOf, Act.put, List.take_succ_cons, List.take_zero, List.getElem?_toArray, List.getElem?_cons_zero, List.getElem?_cons_succ, Option.bind_some, List.setIfInBounds_toArray, List.set_cons_zero, List.set_cons_succ]
  refine Plan.det 1 rfl (Kp.refl _ _) ?_
  apply Exists.intro
  refine ⟨fun vs x hR hF K hK => ?_, ?_⟩
  · have hc := HC.out x hR; clear hF
    go_simp
    exact hK _ _ (Kp.refl _ _ _) rfl
  refine Plan.det 2 rfl (Kp.refl _ _) ?_
  apply Exists.intro
  refine ⟨fun vs x hR hF K hK => ?_, ?_⟩
  · clear hF
    go_simp
    refine (HBY2.out x).mono ?_
    rintro e x1 ⟨rfl, hbe⟩
    exact ⟨_, rfl, hK _ _ (Kp.of_grow hbe) rfl⟩
  refine Plan.rel 3 rfl (Kp.refl _ _) (fun v y => ∃ b : Nat, v = .slice (some ⟨b, 0, none⟩) 2 2 ∧ Row y b [.int .i64 2, .int .u64 (Cs.of [97]).a, .int .u64 (Cs.of [97]).b, .int .u64 (Cs.of [97]).c, .int .u64 (Cs.of [97]).d, .int .i64 0, .int .i64 0, .int .i64 0, .slice none 0 0, .int .i64 2, .int .u64 (Cs.of [98]).a, .int .u64 (Cs.of [98]).b, .int .u64 (Cs.of [98]).c, .int .u64 (Cs.of [98]).d, .int .i64 0, .int .i64 0, .int .i64 0, .slice none 0 0] 28) (fun v y z hR ⟨b, h1, h2⟩ => ⟨b, h1, h2.kp hR (by decide)⟩) (fun vs x hR hF K hK => ?_) ?_
  · have f0 := hF 1 _ _ rfl rfl; have f1 := hF 0 _ _ rfl rfl
    go_simp
    exact hK _ _ (Kp.of_grow (Grow.alloc _ _)) ⟨_, rfl, Row.at _ _ _⟩
  refine Plan.rel 4 rfl (Kp.refl _ _) (fun v y => ∃ b : Nat, v = .agg #[.int .i64 3, .int .u64 0, .int .u64 0, .int .u64 0, .int .u64 0, .int .i64 0, .int .i64 0, .int .i64 0, .slice (some ⟨b, 0, none⟩) 2 2] ∧ Row y b [.int .i64 2, .int .u64 (Cs.of [97]).a, .int .u64 (Cs.of [97]).b, .int .u64 (Cs.of [97]).c, .int .u64 (Cs.of [97]).d, .int .i64 0, .int .i64 0, .int .i64 0, .slice none 0 0, .int .i64 2, .int .u64 (Cs.of [98]).a, .int .u64 (Cs.of [98]).b, .int .u64 (Cs.of [98]).c, .int .u64 (Cs.of [98]).d, .int .i64 0, .int .i64 0, .int .i64 0, .slice none 0 0] 28) (fun v y z hR ⟨b, h1, h2⟩ => ⟨b, h1, h2.kp hR (by decide)⟩) (fun vs x hR hF K hK => ?_) ?_
  · have f1 := hF 1 _ _ rfl rfl; have f2 := hF 0 _ _ rfl rfl
    obtain ⟨b, e2, h2⟩ := f2
    simp only [e2] at *
    go_simp
    refine (HNO.out x 3 (some ⟨b, 0, none⟩) 2 2).mono ?_
    rintro e x1 ⟨rfl, hbe⟩
    exact ⟨_, rfl, hK _ _ (Kp.of_grow hbe) ⟨b, rfl, h2.below hbe h2.lt⟩⟩
  refine Plan.rel 5 rfl (Kp.refl _ _) (fun v y => ∃ (a : Option Addr) (c : Nat), v = .tuple #[.agg #[.slice a 1 c], .bool true, .int .i64 4, .int .i64 0]) (fun v y z hR h => h) (fun vs x hR hF K hK => ?_) ?_
  · have f3 := hF 0 _ _ rfl rfl
    obtain ⟨b, e3, h3⟩ := f3
    simp only [e3] at *
    go_simp
    refine (BAt_any x T3 _ sAB 0 false 4 4 (t3_in h3) (by decide +kernel) (by decide) (by decide) (by omega)).mono ?_
    rintro e x1 ⟨o, k2, er, v, ha, rfl, hbe, hf1, -⟩
    obtain ⟨rfl, rfl, rfl⟩ := api3 ha
    obtain ⟨va, vc, rfl⟩ := (hf1 _ rfl).form
    exact ⟨_, rfl, hK _ _ (Kp.of_grow hbe) ⟨va, vc, rfl⟩⟩
  refine Plan.rel 6 rfl (Kp.refl _ _) (fun v y => ∃ (a : Option Addr) (c : Nat), v = .tuple #[.agg #[.slice a 1 c], .bool true, .int .i64 4, .int .i64 0]) (fun v y z hR h => h) (fun vs x hR hF K hK => ?_) ?_
  · have f4 := hF 0 _ _ rfl rfl
    obtain ⟨a, c, e4⟩ := f4
    simp only [e4] at *
    go_simp
    exact hK _ _ (Kp.refl _ _ _) ⟨a, c, rfl⟩
  refine Plan.rel 7 rfl (Kp.refl _ _) (fun v y => ∃ (a : Option Addr) (c : Nat), v = .agg #[.slice a 1 c]) (fun v y z hR h => h) (fun vs x hR hF K hK => ?_) ?_
  · have f5 := hF 0 _ _ rfl rfl
    obtain ⟨a, c, e5⟩ := f5
    simp only [e5] at *
    go_simp
    exact hK _ _ (Kp.refl _ _ _) ⟨a, c, rfl⟩
  refine Plan.det 8 rfl (Kp.refl _ _) ?_
  apply Exists.intro
  refine ⟨fun vs x hR hF K hK => ?_, ?_⟩
  · have f5 := hF 1 _ _ rfl rfl; clear hF
    obtain ⟨a, c, e5⟩ := f5
    simp only [e5] at *
    go_simp
    exact hK _ _ (Kp.refl _ _ _) rfl
  refine Plan.det 9 rfl (Kp.refl _ _) ?_
  apply Exists.intro
  refine ⟨fun vs x hR hF K hK => ?_, ?_⟩
  · have f5 := hF 2 _ _ rfl rfl; clear hF
    obtain ⟨a, c, e5⟩ := f5
    simp only [e5] at *
    go_simp
    exact hK _ _ (Kp.refl _ _ _) rfl
  refine Plan.det 10 rfl (Kp.refl _ _) ?_
  apply Exists.intro
  refine ⟨fun vs x hR hF K hK => ?_, ?_⟩
  · have f5 := hF 3 _ _ rfl rfl; clear hF
    obtain ⟨a, c, e5⟩ := f5
    simp only [e5] at *
    go_simp
    exact hK _ _ (Kp.refl _ _ _) rfl
  refine Plan.rel 11 rfl (Kp.refl _ _) (fun v y => ∃ (b : Nat) (u : Value), v = .pointer (some ⟨b, 0, none⟩) ∧ w7.heap.size ≤ b ∧ Row y b [u] 43) (fun v y z hR ⟨b, u, h1, h2, h3⟩ => (hR.row b u h3).elim fun u' h4 => ⟨b, u', h1, h2, h4⟩) (fun vs x hR hF K hK => ?_) ?_
  · skip
    go_simp
    exact hK _ _ (Kp.of_grow (Grow.alloc _ _)) ⟨_, _, rfl, (by have := Kp.size hR; simp at this; omega), Row.at _ _ _⟩
  refine Plan.rel 12 rfl (Kp.refl _ _) (fun v y => True) (fun v y z hR h => h) (fun vs x hR hF K hK => ?_) ?_
  · have f0 := hF 10 _ _ rfl rfl; have f1 := hF 9 _ _ rfl rfl; have f2 := hF 8 _ _ rfl rfl; have f3 := hF 7 _ _ rfl rfl; have f4 := hF 6 _ _ rfl rfl; have f5 := hF 5 _ _ rfl rfl; have f6 := hF 4 _ _ rfl rfl; have f10 := hF 0 _ _ rfl rfl
    obtain ⟨a, c, e6⟩ := f6
    obtain ⟨b, u, e10, hb, hr⟩ := f10
    simp only [e6, e10] at *
    have q10 := hr.cell 0
    have q11 := hr.free 0
    go_simp
    exact hK _ _ (Kp.set hr hb) trivial
  refine Plan.det 13 rfl (Kp.refl _ _) ?_
  apply Exists.intro
  refine ⟨fun vs x hR hF K hK => ?_, ?_⟩
  · have f0 := hF 11 _ _ rfl rfl; have f1 := hF 10 _ _ rfl rfl; have f2 := hF 9 _ _ rfl rfl; have f3 := hF 8 _ _ rfl rfl; have f4 := hF 7 _ _ rfl rfl; have f5 := hF 6 _ _ rfl rfl; have f6 := hF 5 _ _ rfl rfl; have f7 := hF 4 _ _ rfl rfl; have f10 := hF 1 _ _ rfl rfl; have f11 := hF 0 _ _ rfl rfl; clear hF
    go_simp
    exact hK _ _ (Kp.refl _ _ _) rfl
  refine Plan.det 14 rfl (Kp.refl _ _) ?_
  apply Exists.intro
  refine ⟨fun vs x hR hF K hK => ?_, ?_⟩
  · have f0 := hF 12 _ _ rfl rfl; have f1 := hF 11 _ _ rfl rfl; have f2 := hF 10 _ _ rfl rfl; have f3 := hF 9 _ _ rfl rfl; have f4 := hF 8 _ _ rfl rfl; have f5 := hF 7 _ _ rfl rfl; have f6 := hF 6 _ _ rfl rfl; have f7 := hF 5 _ _ rfl rfl; have f8 := hF 4 _ _ rfl rfl; have f10 := hF 2 _ _ rfl rfl; have f11 := hF 1 _ _ rfl rfl; have f12 := hF 0 _ _ rfl rfl; clear hF
    go_simp
    exact hK _ _ (Kp.refl _ _ _) rfl
  refine Plan.det 15 rfl (Kp.refl _ _) ?_
  apply Exists.intro
  refine ⟨fun vs x hR hF K hK => ?_, ?_⟩
  · have f0 := hF 13 _ _ rfl rfl; have f1 := hF 12 _ _ rfl rfl; have f2 := hF 11 _ _ rfl rfl; have f3 := hF 10 _ _ rfl rfl; have f4 := hF 9 _ _ rfl rfl; have f5 := hF 8 _ _ rfl rfl; have f6 := hF 7 _ _ rfl rfl; have f7 := hF 6 _ _ rfl rfl; have f8 := hF 5 _ _ rfl rfl; have f9 := hF 4 _ _ rfl rfl; have f10 := hF 3 _ _ rfl rfl; have f11 := hF 2 _ _ rfl rfl; have f12 := hF 1 _ _ rfl rfl; have f13 := hF 0 _ _ rfl rfl; clear hF
    go_simp
    exact hK _ _ (Kp.refl _ _ _) rfl
  refine Plan.nil (fun vs x hR hF => ?_)
  have f0 := hF 14 _ _ rfl; have f1 := hF 13 _ _ rfl; have f2 := hF 12 _ _ rfl; have f3 := hF 11 _ _ rfl; have f4 := hF 10 _ _ rfl; have f5 := hF 9 _ _ rfl; have f6 := hF 8 _ _ rfl; have f7 := hF 7 _ _ rfl; have f8 := hF 6 _ _ rfl; have f9 := hF 5 _ _ rfl; have f10 := hF 4 _ _ rfl; have f11 := hF 3 _ _ rfl; have f12 := hF 2 _ _ rfl; have f13 := hF 1 _ _ rfl; have f14 := hF 0 _ _ rfl
  clear hF
  simp only [f0, f1, f7, f8, f9, f12, f13, f14]
  clear f0 f1 f7 f8 f9 f12 f13 f14
  simp only [List.drop_succ_cons, List.drop_zero]
  have HXX := hid hR.drew
  clear f2 f3 f4 f5 f6 f10 f11 HC hR
  have hk : Kp w7.heap.size 43 w7 x := (Kp.of_grow (Grow.alloc _ _)).trans HXX.out
  have hkb := hk.below (Nat.le_refl _)
  have r3 := HX7.out.2.2.1.below hkb HX7.out.2.2.1.lt
  have rs := HX7.out.2.1.below hkb HX7.out.2.1.lt
  have HB9 := hid (HX7.out.2.2.2.trans (hkb.mono HX7.out.2.2.2.size))
  have p3 := r3.cell 0
  have s0 : x.cell? ⟨sb, 0, none⟩ = some (.int .i64 0) := rs.cell 0
  have s1 : x.cell? ⟨sb, 1, none⟩ = some (.int .i64 2) := rs.cell 1
  have s2 : x.cell? ⟨sb, 2, none⟩ = some (.int .i64 0) := rs.cell 2
  have s3 : x.cell? ⟨sb, 3, none⟩ = some (.int .i64 1) := rs.cell 3
  have heq1 := run_eqIn_span 0 2 0 2
  have heq2 := run_eqIn_span 0 1 0 1
  rw [decide_eq_true (by decide)] at heq1 heq2
  clear hk hkb r3 rs HX7 HBY HBY2 HNO
  go_wp2_with fail
  go_ret
  exact ⟨rfl, HB9.out⟩
end Go.Proofs.Ythnpbopnpdlmnaa

/- The laws of layer 9: few. -/
namespace Go.Proofs.Ythnpbopnpdlmnaa
open Go.RowKit
attribute [local go_sem] gives givesUpon

end Go.Proofs.Ythnpbopnpdlmnaa

/- The laws of layer 9: their helpers over trees (count, Small, anchored, closing), each as a plain function. -/
namespace Go.Proofs.Ythnpbopnpdlmnaa
open Go.RowKit
attribute [local go_sem] gives givesUpon

mutual
def Re.cnt : Re → Nat → Nat → Nat
  | .mk p xs, n, lv => if lv = 0 ∨ 6 < xs.length ∨ 4 < p.lo ∨ 4 < p.hi then n + 1 else Re.cnts xs n 1 (lv - 1)
def Re.cnts : List Re → Nat → Nat → Nat → Nat
  | [], _, k, _ => k
  | x :: xs, n, k, lv => if k ≤ n then Re.cnts xs n (k + x.cnt (n - k) lv) lv else k
end
mutual
theorem Re.cnt_le : ∀ (t : Re) (n lv : Nat), t.cnt n lv ≤ n + 1 ∧ (t.cnt n lv ≤ n → t.size = t.cnt n lv)
  | .mk p xs, n, lv => by
    rw [Re.cnt]
    split
    · exact ⟨Nat.le_refl _, fun h => absurd h (by omega)⟩
    · obtain ⟨h1, h2⟩ := Re.cnts_le xs n 1 (lv - 1) (by omega)
      exact ⟨h1, fun h => by rw [Re.size_mk]; have := h2 h; omega⟩
theorem Re.cnts_le : ∀ (xs : List Re) (n k lv : Nat), k ≤ n + 1 → Re.cnts xs n k lv ≤ n + 1 ∧ (Re.cnts xs n k lv ≤ n → k + Re.sizes xs = Re.cnts xs n k lv)
  | [], n, k, lv, hk => by rw [Re.cnts]; exact ⟨hk, fun _ => rfl⟩
  | x :: xs, n, k, lv, hk => by
    rw [Re.cnts]
    split
    · have h1 := Re.cnt_le x (n - k) lv
      have h2 := Re.cnts_le xs n (k + x.cnt (n - k) lv) lv (by omega)
      refine ⟨h2.1, fun h => ?_⟩
      have h3 := h2.2 h
      have h4 : Re.sizes (x :: xs) = x.size + Re.sizes xs := rfl
      have h5 := h1.2 (by omega)
      omega
    · rename_i h
      exact ⟨hk, fun h' => absurd h' h⟩
end
def Re.small (t : Re) (n : Nat) : Bool := decide (t.cnt n 8 ≤ n)
theorem Re.small_size {t : Re} {n : Nat} (h : t.small n = true) : t.size ≤ n := by
  unfold Re.small at h
  rw [decide_eq_true_eq] at h
  have := (Re.cnt_le t n 8).2 h
  omega
set_option maxRecDepth 100000 in
set_option maxHeartbeats 8000000 in
theorem cnt9_any (wb : World) (t : Re) : ∀ (w : World) (cs : List Value) (n lv : Nat), t.In wb cs → Below wb.heap.size wb w → n ≤ 1000 → lv ≤ 8 →
    Calls Try.prog 24 #[.agg cs.toArray, .int .i64 n, .int .i64 lv] w fun e w' => e = .returned (.int .i64 (t.cnt n lv : Nat)) ∧ Below w.heap.size w w' := by
  induction t using Re.ind with
  | h p xs ih =>
    intro w cs n lv hIn hbw hn hlv
    rw [Re.In] at hIn
    obtain ⟨ad, cap, rfl, hwf, hlc, hcm, hnil, hall⟩ := hIn
    have HIH := hid ih
    have HAL := hid hall
    have HBW := hid hbw
    clear ih hall hwf hbw
    simp only [Pay.cells]
    have hr0 := (Row.new (w := w) (cs := [.int .i64 p.op, .int .u64 p.set.a, .int .u64 p.set.b, .int .u64 p.set.c, .int .u64 p.set.d, .int .i64 p.lo, .int .i64 p.hi, .int .i64 p.gr, .slice ad xs.length cap]) (T := 28) rfl)
    have HR0 := hid hr0
    have q0 := hr0.c9
    have HAL0 := hid ((Below.refl w.heap.size w).alloc (Nat.le_refl _) (.cells #[.int .i64 p.op, .int .u64 p.set.a, .int .u64 p.set.b, .int .u64 p.set.c, .int .u64 p.set.d, .int .i64 p.lo, .int .i64 p.hi, .int .i64 p.gr, .slice ad xs.length cap] 28))
    clear hr0
    obtain ⟨res, hres⟩ : ∃ res, res = (Re.mk p xs).cnt n lv := ⟨_, rfl⟩
    rw [← hres]
    have HRES := hid hres
    rw [Re.cnt] at hres
    by_cases hbad : lv = 0 ∨ 6 < xs.length ∨ 4 < p.lo ∨ 4 < p.hi
    · rw [if_pos hbad] at hres
      subst hres
      by_cases h1 : lv = 0
      · subst h1
        go_enter Try.func24, Try.ntmps24
        go_wp2_with fail
        go_ret
        exact ⟨by simp, HAL0.out⟩
      · have d1 : ((lv : Int) == 0) = false := by simp; omega
        by_cases h2 : 6 < xs.length
        · have h2I : (6 : Int) < xs.length := by omega
          clear h1
          go_enter Try.func24, Try.ntmps24
          go_wp2_with fail
          go_ret
          exact ⟨by simp, HAL0.out⟩
        · have h2I : ¬ (6 : Int) < xs.length := by omega
          by_cases h3 : 4 < p.lo
          · clear h1
            go_enter Try.func24, Try.ntmps24
            go_wp2_with fail
            go_ret
            exact ⟨by simp, HAL0.out⟩
          · have h4 : 4 < p.hi := by omega
            clear h1
            go_enter Try.func24, Try.ntmps24
            go_wp2_with fail
            go_ret
            exact ⟨by simp, HAL0.out⟩
    · rw [if_neg hbad] at hres
      have HRS := hid hres
      clear hres HRES
      have d1 : ((lv : Int) == 0) = false := by simp; omega
      have h2 : ¬ 6 < xs.length := by omega
      have h2I : ¬ (6 : Int) < xs.length := by omega
      have h3 : ¬ 4 < p.lo := by omega
      have h4 : ¬ 4 < p.hi := by omega
      have hl0 : 0 < lv := by omega
      clear hbad
      go_enter Try.func24, Try.ntmps24
      go_wp2_with fail
      go_loopw [7, 8] (fun v i wr => ∃ (k j : Nat), k ≤ n + 1 ∧ j ≤ xs.length ∧ v = .int .i64 k ∧ i = .int .i64 j ∧ Hid ((Row wr w.heap.size [.int .i64 p.op, .int .u64 p.set.a, .int .u64 p.set.b, .int .u64 p.set.c, .int .u64 p.set.d, .int .i64 p.lo, .int .i64 p.hi, .int .i64 p.gr, .slice ad xs.length cap] 28 ∧ Below w.heap.size w wr) ∧ Re.cnts xs n 1 (lv - 1) = Re.cnts (xs.drop j) n k (lv - 1))) (fun _ i _ => xs.length - (intOf i).toNat)
      case atStart => exact ⟨1, 0, by omega, Nat.zero_le _, rfl, rfl, ⟨HR0.out, HAL0.out⟩, rfl⟩
      case round =>
        obtain ⟨k, j, hk, hj, rfl, rfl, HX0⟩ := hrel
        have HX := hid HX0.out.1
        have HKK := hid HX0.out.2
        clear HX0
        have q1 := HX.out.1.c9
        clear q0
        by_cases hlt : j < xs.length
        · have hdrop := List.drop_eq_getElem_cons hlt
          by_cases hkn : k ≤ n
          · have HBL : Hid (Below wb.heap.size wb wr) := HBW.out.trans (HX.out.2.mono HBW.out.size)
            obtain ⟨b, o, p', ad', n', cap', rfl, HC, HI0, hbb⟩ := HAL.out.kid HBL.out j hlt
            have HKN : Hid (Re.cnts xs n 1 (lv - 1) = Re.cnts (xs.drop (j + 1)) n (k + xs[j].cnt (n - k) (lv - 1)) (lv - 1) ∧ xs[j].cnt (n - k) (lv - 1) ≤ n - k + 1) := ⟨by have := HKK.out; rw [hdrop, Re.cnts, if_pos hkn] at this; exact this, (Re.cnt_le _ _ _).1⟩
            have hjI : (j : Int) < xs.length := by omega
            have hkI : (k : Int) ≤ n := by omega
            clear hdrop
            go_wp2_with (first | (with_reducible (refine wpList_load_agg rfl 28 _ rfl b (o + (j * 9)) rfl _ _ HC.out Try.underlying28 rfl (size_re9 _ _ _ _ _ _ _ _ _) ?_)))
            have H1 := HIH.out xs[j] (List.getElem_mem _) wr _ (n - k) (lv - 1) HI0.out HBL.out (by omega) (by omega)
            obtain ⟨r, hr⟩ : ∃ r, r = xs[j].cnt (n - k) (lv - 1) := ⟨_, rfl⟩
            rw [← hr] at H1 HKN
            clear hr
            rw [show ((n - k : Nat) : Int) = (n : Int) - k by omega, show ((lv - 1 : Nat) : Int) = (lv : Int) - 1 by omega] at H1
            refine H1.mono ?_
            clear H1
            rintro e w2 ⟨rfl, hb2⟩
            have hr9 : r ≤ n - k + 1 := HKN.out.2
            have HX2 := hid (⟨HX.out.1.below hb2 HX.out.1.lt, HX.out.2.trans (hb2.mono HX.out.2.size)⟩ : Row w2 _ _ _ ∧ Below _ _ w2)
            clear hb2
            go_wp2_with fail
            refine ⟨⟨k + r, j + 1, by omega, by omega, by go_num, by go_num, HX2.out, HKN.out.1⟩, ?_⟩
            simp [intOf]; omega
          · have hkI : ¬ (k : Int) ≤ n := by omega
            have hjI : (j : Int) < xs.length := by omega
            have HE : Hid (k = res) := by have := HKK.out; rw [hdrop, Re.cnts, if_neg hkn] at this; exact (HRS.out.trans this).symm
            clear hdrop
            go_wp2_with fail
            go_ret
            exact ⟨by rw [HE.out]; rfl, HX.out.2⟩
        · have hjI : ¬ (j : Int) < xs.length := by omega
          have HE : Hid (k = res) := by have := HKK.out; rw [List.drop_eq_nil_of_le (by omega), Re.cnts] at this; exact (HRS.out.trans this).symm
          go_wp2_with fail
          go_ret
          exact ⟨by rw [HE.out]; rfl, HX.out.2⟩
set_option maxHeartbeats 2000000 in
theorem SmallB_any (w : World) (t : Re) (cs : List Value) (n : Nat) (hin : t.In w cs) (hn : n ≤ 1000) :
    Calls Try.prog 6 #[.agg cs.toArray, .int .i64 n] w fun e w' => e = .returned (.bool (t.small n)) ∧ Below w.heap.size w w' := by
  obtain ⟨p, ad, m, c, rfl⟩ := Re.cells_shape hin
  have HI := hid hin
  have HB := hid ((Below.refl w.heap.size w).alloc (Nat.le_refl _) (.cells #[.int .i64 p.op, .int .u64 p.set.a, .int .u64 p.set.b, .int .u64 p.set.c, .int .u64 p.set.d, .int .i64 p.lo, .int .i64 p.hi, .int .i64 p.gr, .slice ad m c] 28))
  clear hin
  have hct := fun x hx => cnt9_any w t x #[.int .i64 p.op, .int .u64 p.set.a, .int .u64 p.set.b, .int .u64 p.set.c, .int .u64 p.set.d, .int .i64 p.lo, .int .i64 p.hi, .int .i64 p.gr, .slice ad m c].toList n 8 HI.out hx hn (by omega)
  obtain ⟨r, hr⟩ : ∃ r, r = t.cnt n 8 := ⟨_, rfl⟩
  have hsm : t.small n = decide (r ≤ n) := by unfold Re.small; rw [hr]
  rw [← hr] at hct
  rw [hsm]
  have HCT := hid hct
  clear hr hsm hct
  go_enter Try.func6, Try.ntmps6
  go_wp2_with fail
  refine (HCT.out _ HB.out).mono ?_
  rintro e w1 ⟨rfl, hb⟩
  have HB1 := hid (HB.out.trans (hb.mono (by simp)))
  clear hb
  by_cases h : (r : Int) ≤ n
  · have h2 : r ≤ n := by omega
    go_wp2_with fail
    go_ret
    exact ⟨by simp; omega, HB1.out⟩
  · have h2 : ¬ r ≤ n := by omega
    go_wp2_with fail
    go_ret
    exact ⟨by simp; omega, HB1.out⟩
mutual
def Re.anch (o : Int) : Re → Bool
  | .mk p xs => decide (p.op = o) || Re.anchs o xs
def Re.anchs (o : Int) : List Re → Bool
  | [] => false
  | x :: xs => x.anch o || Re.anchs o xs
end
end Go.Proofs.Ythnpbopnpdlmnaa

/- How many spans are handed out. -/
namespace Go.Proofs.Ythnpbopnpdlmnaa
open Go.RowKit

end Go.Proofs.Ythnpbopnpdlmnaa

/- Reback's laws: few, with the size of the tree; whether two matches are the same. -/
namespace Go.Proofs.Ythnpbopnpdlmnaa
open Go.RowKit
attribute [local go_sem] gives givesUpon

end Go.Proofs.Ythnpbopnpdlmnaa
