/- A repetition's node; a list of one tree, n times. -/
import Derived.Test.YthnpbopnpdlmnaaDoorA11
import Derived.Test.YthnpbopnpdlmnaaDoorA06
namespace Go.Proofs.YthnpbopnpdlmnaaDoor
open Go.RowKit
attribute [local go_sem] gives givesUpon


theorem info_re9 : (Tryd.prog.info? 28).map (fun i => (i.zero, i.size, i.bytes)) = some (some (.agg #[.int .i64 0, .int .u64 0, .int .u64 0, .int .u64 0, .int .u64 0, .int .i64 0, .int .i64 0, .int .i64 0, .slice none 0 0]), 9, 88) := by kernel_rfl

set_option maxRecDepth 100000 in
set_option maxHeartbeats 4000000 in
theorem repeat_any (S : Nat → Prop) (x : Re) (lo hi : Int) (w : World) (cs : List Value) (hx : x.InS S w cs) (hlo : -1 ≤ lo ∧ lo ≤ 64) (hhi : -1 ≤ hi ∧ hi ≤ 64) :
    Calls Tryd.prog 53 #[.agg cs.toArray, .int .i64 lo, .int .i64 hi] w fun e w' => ∃ cs', e = .returned (.agg cs'.toArray) ∧ (x.rept lo hi).InS (fun k => S k ∨ w.heap.size ≤ k) w' cs' ∧ Below w.heap.size w w' := by
  obtain ⟨p, ad, m, cap, rfl⟩ := Re.cells_shape hx.self
  have HX := hid hx
  have HW : Hid (Row (((w.alloc (.cells #[.int .i64 p.op, .int .u64 p.set.a, .int .u64 p.set.b, .int .u64 p.set.c, .int .u64 p.set.d, .int .i64 p.lo, .int .i64 p.hi, .int .i64 p.gr, .slice ad m cap] 28)).alloc (.cells #[.int .i64 5, .int .u64 0, .int .u64 0, .int .u64 0, .int .u64 0, .int .i64 lo, .int .i64 hi, .int .i64 0, .slice (some ⟨w.heap.size + 1 + 1, 0, none⟩) 1 1] 28)).alloc (.cells #[.int .i64 p.op, .int .u64 p.set.a, .int .u64 p.set.b, .int .u64 p.set.c, .int .u64 p.set.d, .int .i64 p.lo, .int .i64 p.hi, .int .i64 p.gr, .slice ad m cap] 28)) (w.heap.size + 1) [.int .i64 5, .int .u64 0, .int .u64 0, .int .u64 0, .int .u64 0, .int .i64 lo, .int .i64 hi, .int .i64 0, .slice (some ⟨w.heap.size + 1 + 1, 0, none⟩) 1 1] 28 ∧ Row (((w.alloc (.cells #[.int .i64 p.op, .int .u64 p.set.a, .int .u64 p.set.b, .int .u64 p.set.c, .int .u64 p.set.d, .int .i64 p.lo, .int .i64 p.hi, .int .i64 p.gr, .slice ad m cap] 28)).alloc (.cells #[.int .i64 5, .int .u64 0, .int .u64 0, .int .u64 0, .int .u64 0, .int .i64 lo, .int .i64 hi, .int .i64 0, .slice (some ⟨w.heap.size + 1 + 1, 0, none⟩) 1 1] 28)).alloc (.cells #[.int .i64 p.op, .int .u64 p.set.a, .int .u64 p.set.b, .int .u64 p.set.c, .int .u64 p.set.d, .int .i64 p.lo, .int .i64 p.hi, .int .i64 p.gr, .slice ad m cap] 28)) (w.heap.size + 1 + 1) [.int .i64 p.op, .int .u64 p.set.a, .int .u64 p.set.b, .int .u64 p.set.c, .int .u64 p.set.d, .int .i64 p.lo, .int .i64 p.hi, .int .i64 p.gr, .slice ad m cap] 28 ∧ Below w.heap.size w (((w.alloc (.cells #[.int .i64 p.op, .int .u64 p.set.a, .int .u64 p.set.b, .int .u64 p.set.c, .int .u64 p.set.d, .int .i64 p.lo, .int .i64 p.hi, .int .i64 p.gr, .slice ad m cap] 28)).alloc (.cells #[.int .i64 5, .int .u64 0, .int .u64 0, .int .u64 0, .int .u64 0, .int .i64 lo, .int .i64 hi, .int .i64 0, .slice (some ⟨w.heap.size + 1 + 1, 0, none⟩) 1 1] 28)).alloc (.cells #[.int .i64 p.op, .int .u64 p.set.a, .int .u64 p.set.b, .int .u64 p.set.c, .int .u64 p.set.d, .int .i64 p.lo, .int .i64 p.hi, .int .i64 p.gr, .slice ad m cap] 28))) :=
    ⟨(Row.new (cs := [.int .i64 5, .int .u64 0, .int .u64 0, .int .u64 0, .int .u64 0, .int .i64 lo, .int .i64 hi, .int .i64 0, .slice (some ⟨w.heap.size + 1 + 1, 0, none⟩) 1 1]) (by simp)).alloc _, Row.new (cs := [.int .i64 p.op, .int .u64 p.set.a, .int .u64 p.set.b, .int .u64 p.set.c, .int .u64 p.set.d, .int .i64 p.lo, .int .i64 p.hi, .int .i64 p.gr, .slice ad m cap]) (by simp), (((Below.refl _ w).alloc (Nat.le_refl _) _).alloc (by simp) _).alloc (by simp; omega) _⟩
  clear hx
  go_enter Tryd.func53, Tryd.ntmps53
  go_wp2_with fail
  refine ret_row 6 28 rfl (w.heap.size + 1) rfl [.int .i64 5, .int .u64 0, .int .u64 0, .int .u64 0, .int .u64 0, .int .i64 lo, .int .i64 hi, .int .i64 0, .slice (some ⟨w.heap.size + 1 + 1, 0, none⟩) 1 1] (CellsAt.of_row (T := 28) HW.out.1) _ Tryd.underlying28 rfl (size_re9 _ _ _ _ _ _ _ _ _) rfl ?_
  have hb := HW.out.2.2
  refine ⟨[.int .i64 5, .int .u64 0, .int .u64 0, .int .u64 0, .int .u64 0, .int .i64 lo, .int .i64 hi, .int .i64 0, .slice (some ⟨w.heap.size + 1 + 1, 0, none⟩) 1 1], rfl, ?_, hb⟩
  exact OwnRes.node (OwnRes.same (n := 1) (base := w.heap.size) HW.out.2.1 (by omega) (by decide) (by simp) (HX.out.step hb.size fun k hk hl => ⟨⟨.inl hk, by omega⟩, hb.block k hl⟩)) (fun k hk => .inr hk) (Pay.ofRep lo hi) (Pay.ofRep_wf ⟨by omega, by omega⟩ ⟨by omega, by omega⟩)

set_option maxRecDepth 100000 in
set_option maxHeartbeats 4000000 in
theorem copies_any (x : Re) (n : Nat) (i : Int) (hin : i = n) (w : World) (cs : List Value) (hx : x.In w cs) (hn64 : n ≤ 64) :
    Calls Tryd.prog 54 #[.agg cs.toArray, .int .i64 i] w fun e w' => ∃ B, e = .returned (.slice (some ⟨B, 0, none⟩) n n) ∧ w.heap.size ≤ B ∧ Row w' B (List.replicate n cs).flatten 28 ∧ Below w.heap.size w w' := by
  subst hin
  obtain ⟨p, ad, m, cap, rfl⟩ := Re.cells_shape hx
  clear hx
  obtain ⟨i0, hi, hz0, hz1, hz2⟩ := info_parts info_re9
  have hmk : ∀ y : World, (Instr.makeSlice 26 (.int .i64 (n : Int)) (.int .i64 (n : Int))).run Tryd.prog y = .ok (.slice (some ⟨y.heap.size, 0, none⟩) n n) (y.alloc (.cells (madeCells #[.int .i64 0, .int .u64 0, .int .u64 0, .int .u64 0, .int .u64 0, .int .i64 0, .int .i64 0, .int .i64 0, .slice none 0 0] (n * 9)) 28)) := fun y => by
    have h := run_makeSlice (P := Tryd.prog) y 26 28 i0 _ Tryd.underlying26 hi hz0 .i64 .i64 n n (by omega) (by omega) (by rw [hz1]; simp; omega) (by rw [hz2]; omega) (by omega)
    rw [hz1] at h
    simpa [Value.cells] using h
  have HMK := hid (fun y : World => Row.new (w := y) (B := y.heap.size) (cs := (madeCells #[.int .i64 0, .int .u64 0, .int .u64 0, .int .u64 0, .int .u64 0, .int .i64 0, .int .i64 0, .int .i64 0, .slice none 0 0] (n * 9)).toList) (T := 28) rfl)
  clear hi hz0 hz1 hz2
  go_enter Tryd.func54, Tryd.ntmps54
  go_wp2_with fail
  go_loopw [6, 11] (fun v i wr => ∃ (k : Nat) (M : List Value), k ≤ n ∧ i = .int .i64 k ∧ Hid (M.length = n * 9 ∧ ∀ i, i < k → ∀ j, j < 9 → M[i * 9 + j]? = ([.int .i64 p.op, .int .u64 p.set.a, .int .u64 p.set.b, .int .u64 p.set.c, .int .u64 p.set.d, .int .i64 p.lo, .int .i64 p.hi, .int .i64 p.gr, .slice ad m cap] : List Value)[j]?) ∧ Hid (Row wr (w.heap.size + 1) M 28 ∧ Row wr w.heap.size [.int .i64 p.op, .int .u64 p.set.a, .int .u64 p.set.b, .int .u64 p.set.c, .int .u64 p.set.d, .int .i64 p.lo, .int .i64 p.hi, .int .i64 p.gr, .slice ad m cap] 28 ∧ Below w.heap.size w wr)) (fun _ i _ => n - (intOf i).toNat)
  case atStart =>
    refine ⟨0, (madeCells #[.int .i64 0, .int .u64 0, .int .u64 0, .int .u64 0, .int .u64 0, .int .i64 0, .int .i64 0, .int .i64 0, .slice none 0 0] (n * 9)).toList, by omega, rfl, ⟨by simp [size_madeCells], fun i hi => by omega⟩, by simpa using HMK.out (w.alloc (.cells #[.int .i64 p.op, .int .u64 p.set.a, .int .u64 p.set.b, .int .u64 p.set.c, .int .u64 p.set.d, .int .i64 p.lo, .int .i64 p.hi, .int .i64 p.gr, .slice ad m cap] 28)), (Row.new (cs := [.int .i64 p.op, .int .u64 p.set.a, .int .u64 p.set.b, .int .u64 p.set.c, .int .u64 p.set.d, .int .i64 p.lo, .int .i64 p.hi, .int .i64 p.gr, .slice ad m cap]) rfl).alloc _, ((Below.refl _ w).alloc (Nat.le_refl _) _).alloc (by simp) _⟩
  case round =>
    obtain ⟨k, M, hk, rfl, HM, HR⟩ := hrel
    have q1 := HR.out.2.1.c9
    have hB := HR.out.2.1.lt
    by_cases hlt : k < n
    · have HTH : Hid (wr.there (w.heap.size + 1) (k * 9) (#[.int .i64 p.op, .int .u64 p.set.a, .int .u64 p.set.b, .int .u64 p.set.c, .int .u64 p.set.d, .int .i64 p.lo, .int .i64 p.hi, .int .i64 p.gr, .slice ad m cap] : Array Value).size) := HR.out.1.there (k * 9) 9 (by rw [HM.out.1]; show k * 9 + 9 ≤ n * 9; omega)
      go_wp2_with (with_reducible (refine wpList_store_mid rfl 28 _ _ rfl (w.heap.size + 1) (k * 9) #[.int .i64 p.op, .int .u64 p.set.a, .int .u64 p.set.b, .int .u64 p.set.c, .int .u64 p.set.d, .int .i64 p.lo, .int .i64 p.hi, .int .i64 p.gr, .slice ad m cap] rfl rfl HTH.out ?ci ?c1 ?_))
      case ci => exact size_re9 _ _ _ _ _ _ _ _ _
      case c1 => simp [Value.oneCell']
      go_roundw
      case rel =>
        obtain ⟨M', h1, h2⟩ := HR.out.1.setCells [.int .i64 p.op, .int .u64 p.set.a, .int .u64 p.set.b, .int .u64 p.set.c, .int .u64 p.set.d, .int .i64 p.lo, .int .i64 p.hi, .int .i64 p.gr, .slice ad m cap] (k * 9)
        have hsame := World.rangeAt_setCells_same wr (w.heap.size + 1) (k * 9) [.int .i64 p.op, .int .u64 p.set.a, .int .u64 p.set.b, .int .u64 p.set.c, .int .u64 p.set.d, .int .i64 p.lo, .int .i64 p.hi, .int .i64 p.gr, .slice ad m cap] HTH.out
        refine ⟨k + 1, M', by omega, by go_num, ⟨by rw [h2, HM.out.1], fun i hi j hj => ?_⟩, h1, HR.out.2.1.otherCells (by omega) _ _, below_setCells (by omega) _ _ _ HR.out.2.2⟩
        by_cases hik : i = k
        · subst hik
          rw [← h1.cell]
          have e := hsame j (([.int .i64 p.op, .int .u64 p.set.a, .int .u64 p.set.b, .int .u64 p.set.c, .int .u64 p.set.d, .int .i64 p.lo, .int .i64 p.hi, .int .i64 p.gr, .slice ad m cap] : List Value)[j]'(by simpa using hj)) (List.getElem?_eq_getElem _)
          rw [e, List.getElem?_eq_getElem]
        · rw [← h1.cell, World.cell?_setCells_out _ _ _ _ _ (fun _ _ => .inl (by show i * 9 + j < k * 9; omega)), HR.out.1.cell]
          exact HM.out.2 i (by omega) j hj
      case measure => simp [intOf]; omega
    · obtain rfl : k = n := by omega
      go_wp2_with fail
      all_goals go_ret
      have hM := flat_same rfl HM.out.1 HM.out.2
      have hr := HR.out.1
      rw [hM] at hr
      exact ⟨w.heap.size + 1, rfl, by omega, hr, HR.out.2.2⟩
end Go.Proofs.YthnpbopnpdlmnaaDoor
