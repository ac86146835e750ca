/- The program's counted: what stands for a repetition. -/
import Derived.Test.YthnpbopnpdlmnaaDoorA12
import Derived.Test.YthnpbopnpdlmnaaDoorA08
namespace Go.Proofs.YthnpbopnpdlmnaaDoor
open Go.RowKit
attribute [local go_sem] gives givesUpon


def Sb (S : Nat → Prop) (w : World) (n : Nat) : Nat → Prop := fun k => (S k ∧ k < w.heap.size) ∨ n ≤ k

theorem counted_end {S : Nat → Prop} {w y : World} {T : Re} {a b c d e f g i j : Value} (hb : Below w.heap.size w y) (hr : Row y (w.heap.size + 1) [.int .i64 0, .int .u64 0, .int .u64 0, .int .u64 0, .int .u64 0, .int .i64 0, .int .i64 0, .int .i64 0, .slice none 0 0] 28) (hT : T.InS (Sb S w (w.heap.size + 2)) y [a, b, c, d, e, f, g, i, j]) :
    ∃ cs', Row (((((((((y.setCell ⟨w.heap.size + 1, 0, none⟩ a).setCell ⟨w.heap.size + 1, 1, none⟩ b).setCell ⟨w.heap.size + 1, 2, none⟩ c).setCell ⟨w.heap.size + 1, 3, none⟩ d).setCell ⟨w.heap.size + 1, 4, none⟩ e).setCell ⟨w.heap.size + 1, 5, none⟩ f).setCell ⟨w.heap.size + 1, 6, none⟩ g).setCell ⟨w.heap.size + 1, 7, none⟩ i).setCell ⟨w.heap.size + 1, 8, none⟩ j) (w.heap.size + 1) cs' 28 ∧ cs'.length = 9 ∧
      T.InS (fun k => S k ∨ w.heap.size ≤ k) (((((((((y.setCell ⟨w.heap.size + 1, 0, none⟩ a).setCell ⟨w.heap.size + 1, 1, none⟩ b).setCell ⟨w.heap.size + 1, 2, none⟩ c).setCell ⟨w.heap.size + 1, 3, none⟩ d).setCell ⟨w.heap.size + 1, 4, none⟩ e).setCell ⟨w.heap.size + 1, 5, none⟩ f).setCell ⟨w.heap.size + 1, 6, none⟩ g).setCell ⟨w.heap.size + 1, 7, none⟩ i).setCell ⟨w.heap.size + 1, 8, none⟩ j) cs' ∧
      Below w.heap.size w (((((((((y.setCell ⟨w.heap.size + 1, 0, none⟩ a).setCell ⟨w.heap.size + 1, 1, none⟩ b).setCell ⟨w.heap.size + 1, 2, none⟩ c).setCell ⟨w.heap.size + 1, 3, none⟩ d).setCell ⟨w.heap.size + 1, 4, none⟩ e).setCell ⟨w.heap.size + 1, 5, none⟩ f).setCell ⟨w.heap.size + 1, 6, none⟩ g).setCell ⟨w.heap.size + 1, 7, none⟩ i).setCell ⟨w.heap.size + 1, 8, none⟩ j) :=
  ⟨[a, b, c, d, e, f, g, i, j], hr.set9 _ _ _ _ _ _ _ _ _, rfl,
    ((hT.but (But.set9 (But.refl [w.heap.size + 1] y) (.inl (by simp)) _ _ _ _ _ _ _ _ _) (fun k hk => by simp; rintro rfl; rcases hk with hk | hk <;> omega)).mono fun k hk => by rcases hk with hk | hk; exact .inl hk.1; exact .inr (by omega)),
    below9 hb (by omega) _ _ _ _ _ _ _ _ _⟩
theorem Sb_mono {S : Nat → Prop} {w x : World} {n : Nat} (hn : n ≤ x.heap.size) : ∀ k, ((S k ∧ k < w.heap.size) ∨ x.heap.size ≤ k) → Sb S w n k := fun k hk => hk.elim .inl fun h => .inr (by omega)
theorem size_relen {cs : List Value} (h : cs.length = 9) : (Tryd.prog.info? 28).map (·.size) = some cs.length := by rw [h]; kernel_rfl

set_option maxRecDepth 100000 in
set_option maxHeartbeats 4000000 in
theorem counted_any (S : Nat → Prop) (t : Re) (lo hi : Int) (w : World) (cs : List Value) (hx : t.InS S w cs) (hlo : 0 ≤ lo ∧ lo ≤ 64) (hhi : hi = -1 ∨ (lo ≤ hi ∧ hi ≤ 64)) :
    Calls Tryd.prog 43 #[.agg cs.toArray, .int .i64 lo, .int .i64 hi] w fun e w' => ∃ cs', e = .returned (.agg cs'.toArray) ∧ (t.counted lo hi).InS (fun k => S k ∨ w.heap.size ≤ k) w' cs' ∧ Below w.heap.size w w' := by
  obtain ⟨p, ad, m, cap, rfl⟩ := Re.cells_shape hx.self
  have hb0 : Below w.heap.size w ((w.alloc (.cells #[.int .i64 p.op, .int .u64 p.set.a, .int .u64 p.set.b, .int .u64 p.set.c, .int .u64 p.set.d, .int .i64 p.lo, .int .i64 p.hi, .int .i64 p.gr, .slice ad m cap] 28)).alloc (.cells #[.int .i64 0, .int .u64 0, .int .u64 0, .int .u64 0, .int .u64 0, .int .i64 0, .int .i64 0, .int .i64 0, .slice none 0 0] 28)) := ((Below.refl _ w).alloc (Nat.le_refl _) _).alloc (by simp) _
  have HW : Hid (Row ((w.alloc (.cells #[.int .i64 p.op, .int .u64 p.set.a, .int .u64 p.set.b, .int .u64 p.set.c, .int .u64 p.set.d, .int .i64 p.lo, .int .i64 p.hi, .int .i64 p.gr, .slice ad m cap] 28)).alloc (.cells #[.int .i64 0, .int .u64 0, .int .u64 0, .int .u64 0, .int .u64 0, .int .i64 0, .int .i64 0, .int .i64 0, .slice none 0 0] 28)) w.heap.size [.int .i64 p.op, .int .u64 p.set.a, .int .u64 p.set.b, .int .u64 p.set.c, .int .u64 p.set.d, .int .i64 p.lo, .int .i64 p.hi, .int .i64 p.gr, .slice ad m cap] 28 ∧ Row ((w.alloc (.cells #[.int .i64 p.op, .int .u64 p.set.a, .int .u64 p.set.b, .int .u64 p.set.c, .int .u64 p.set.d, .int .i64 p.lo, .int .i64 p.hi, .int .i64 p.gr, .slice ad m cap] 28)).alloc (.cells #[.int .i64 0, .int .u64 0, .int .u64 0, .int .u64 0, .int .u64 0, .int .i64 0, .int .i64 0, .int .i64 0, .slice none 0 0] 28)) (w.heap.size + 1) [.int .i64 0, .int .u64 0, .int .u64 0, .int .u64 0, .int .u64 0, .int .i64 0, .int .i64 0, .int .i64 0, .slice none 0 0] 28 ∧ Below w.heap.size w ((w.alloc (.cells #[.int .i64 p.op, .int .u64 p.set.a, .int .u64 p.set.b, .int .u64 p.set.c, .int .u64 p.set.d, .int .i64 p.lo, .int .i64 p.hi, .int .i64 p.gr, .slice ad m cap] 28)).alloc (.cells #[.int .i64 0, .int .u64 0, .int .u64 0, .int .u64 0, .int .u64 0, .int .i64 0, .int .i64 0, .int .i64 0, .slice none 0 0] 28)) ∧ t.InS (fun k => S k ∧ k < w.heap.size) ((w.alloc (.cells #[.int .i64 p.op, .int .u64 p.set.a, .int .u64 p.set.b, .int .u64 p.set.c, .int .u64 p.set.d, .int .i64 p.lo, .int .i64 p.hi, .int .i64 p.gr, .slice ad m cap] 28)).alloc (.cells #[.int .i64 0, .int .u64 0, .int .u64 0, .int .u64 0, .int .u64 0, .int .i64 0, .int .i64 0, .int .i64 0, .slice none 0 0] 28)) [.int .i64 p.op, .int .u64 p.set.a, .int .u64 p.set.b, .int .u64 p.set.c, .int .u64 p.set.d, .int .i64 p.lo, .int .i64 p.hi, .int .i64 p.gr, .slice ad m cap]) :=
    ⟨(Row.new (cs := [.int .i64 p.op, .int .u64 p.set.a, .int .u64 p.set.b, .int .u64 p.set.c, .int .u64 p.set.d, .int .i64 p.lo, .int .i64 p.hi, .int .i64 p.gr, .slice ad m cap]) rfl).alloc _, Row.new (cs := [.int .i64 0, .int .u64 0, .int .u64 0, .int .u64 0, .int .u64 0, .int .i64 0, .int .i64 0, .int .i64 0, .slice none 0 0]) (by simp), hb0, hx.lim.below hb0⟩
  obtain ⟨hl1, hl2⟩ := hlo
  have HX := hid hx
  clear hx hb0
  by_cases c1 : (lo = 0 ∧ (hi = 1 ∨ hi = -1)) ∨ (lo = 1 ∧ hi = -1)
  · skip
    have e1 := hid (show t.counted lo hi = t.rept lo hi by unfold Re.counted; rw [if_pos c1])
    rcases c1 with ⟨rfl, rfl | rfl⟩ | ⟨rfl, rfl⟩
    all_goals
      clear hhi
      go_enter Tryd.func43, Tryd.ntmps43
      go_wp2_with fail
      refine (repeat_any _ t _ _ _ _ HW.out.2.2.2 (by omega) (by omega)).mono ?_
      rintro e w1 ⟨cs', rfl, hin, hb⟩
      obtain ⟨p', ad', m', cap', rfl⟩ := Re.cells_shape hin.self
      have hr := HW.out.2.1.below hb (by simp)
      have q1 := hr.c9
      have z1 := hr.lt
      have HE := hid (And.intro (HW.out.2.2.1.trans (hb.mono (by simp; omega))) (And.intro hr (hin.mono (S' := Sb S w (w.heap.size + 2)) fun k hk => by rcases hk with hk | hk; exact .inl hk; exact .inr (by simpa using hk))))
      clear hr hb hin
      go_wp2_with fail
      obtain ⟨cs', k1, k2, k3, k4⟩ := counted_end HE.out.1 HE.out.2.1 HE.out.2.2
      refine ret_row 6 28 rfl (w.heap.size + 1) rfl cs' (CellsAt.of_row (T := 28) k1) _ Tryd.underlying28 rfl (size_relen k2) rfl ?_
      refine ⟨cs', rfl, ?_, k4⟩
      rw [e1.out]
      exact k3
  by_cases c2 : hi = 0
  · obtain rfl := c2
    obtain rfl : lo = 0 := by omega
    have e1 := hid (show t.counted 0 0 = .mk (Pay.of 1) [] by unfold Re.counted; rw [if_neg c1, if_pos rfl])
    clear hhi c1
    go_enter Tryd.func43, Tryd.ntmps43
    go_wp2_with fail
    refine ret_row 6 28 rfl (w.heap.size + 1) rfl [.int .i64 1, .int .u64 0, .int .u64 0, .int .u64 0, .int .u64 0, .int .i64 0, .int .i64 0, .int .i64 0, .slice none 0 0] (CellsAt.of_row (T := 28) (Row.new (by simp))) _ Tryd.underlying28 rfl (size_relen rfl) rfl ?_
    refine ⟨_, rfl, ?_, ((Below.refl _ w).alloc (Nat.le_refl _) _).alloc (by simp) _⟩
    rw [e1.out]
    exact (OwnRes.nil _ w.heap.size _).node (fun k hk => .inr hk) (Pay.of 1) (Pay.of_wf ⟨by decide, by decide⟩)
  by_cases c3 : lo = 1 ∧ hi = 1
  · skip
    obtain ⟨rfl, rfl⟩ := c3
    have e1 := hid (show t.counted 1 1 = t by unfold Re.counted; rw [if_neg c1, if_neg c2, if_pos ⟨rfl, rfl⟩])
    clear hhi c1 c2
    go_enter Tryd.func43, Tryd.ntmps43
    go_wp2_with fail
    have hr : Row ((w.alloc (.cells #[.int .i64 p.op, .int .u64 p.set.a, .int .u64 p.set.b, .int .u64 p.set.c, .int .u64 p.set.d, .int .i64 p.lo, .int .i64 p.hi, .int .i64 p.gr, .slice ad m cap] 28)).alloc (.cells #[.int .i64 p.op, .int .u64 p.set.a, .int .u64 p.set.b, .int .u64 p.set.c, .int .u64 p.set.d, .int .i64 p.lo, .int .i64 p.hi, .int .i64 p.gr, .slice ad m cap] 28)) (w.heap.size + 1) [.int .i64 p.op, .int .u64 p.set.a, .int .u64 p.set.b, .int .u64 p.set.c, .int .u64 p.set.d, .int .i64 p.lo, .int .i64 p.hi, .int .i64 p.gr, .slice ad m cap] 28 := Row.new (cs := [.int .i64 p.op, .int .u64 p.set.a, .int .u64 p.set.b, .int .u64 p.set.c, .int .u64 p.set.d, .int .i64 p.lo, .int .i64 p.hi, .int .i64 p.gr, .slice ad m cap]) (by simp)
    refine ret_row 6 28 rfl (w.heap.size + 1) rfl [.int .i64 p.op, .int .u64 p.set.a, .int .u64 p.set.b, .int .u64 p.set.c, .int .u64 p.set.d, .int .i64 p.lo, .int .i64 p.hi, .int .i64 p.gr, .slice ad m cap] (CellsAt.of_row (T := 28) hr) _ Tryd.underlying28 rfl (size_relen rfl) rfl ?_
    have hb : Below w.heap.size w ((w.alloc (.cells #[.int .i64 p.op, .int .u64 p.set.a, .int .u64 p.set.b, .int .u64 p.set.c, .int .u64 p.set.d, .int .i64 p.lo, .int .i64 p.hi, .int .i64 p.gr, .slice ad m cap] 28)).alloc (.cells #[.int .i64 p.op, .int .u64 p.set.a, .int .u64 p.set.b, .int .u64 p.set.c, .int .u64 p.set.d, .int .i64 p.lo, .int .i64 p.hi, .int .i64 p.gr, .slice ad m cap] 28)) := ((Below.refl _ w).alloc (Nat.le_refl _) _).alloc (by simp) _
    refine ⟨[.int .i64 p.op, .int .u64 p.set.a, .int .u64 p.set.b, .int .u64 p.set.c, .int .u64 p.set.d, .int .i64 p.lo, .int .i64 p.hi, .int .i64 p.gr, .slice ad m cap], rfl, ?_, hb⟩
    rw [e1.out]
    exact HX.out.step hb.size fun k hk hl => ⟨.inl hk, hb.block k hl⟩
  by_cases c4 : hi = lo
  · skip
    obtain rfl := c4
    obtain ⟨n, rfl⟩ := Int.eq_ofNat_of_zero_le hl1
    have e1 := hid (show t.counted n n = .mk (Pay.of 3) (List.replicate n t) by unfold Re.counted; rw [if_neg c1, if_neg c2, if_neg c3, if_pos rfl, Int.toNat_natCast])
    have d1 : (((n : Nat) : Int) == 0) = false := by simp <;> omega
    have d2 : (((n : Nat) : Int) == 1) = false := by simp <;> omega
    have d3 : (((n : Nat) : Int) == -1) = false := by simp <;> omega
    clear hhi c1 c2 c3
    go_enter Tryd.func43, Tryd.ntmps43
    go_wp2_with fail
    refine (copies_any t n _ rfl _ _ HW.out.2.2.2.self (by omega)).mono ?_
    rintro e w1 ⟨B, rfl, hB, hrB, hb⟩
    have hB2 : w.heap.size + 2 ≤ B := by simp at hB; omega
    have hr := HW.out.2.1.below hb (by simp)
    have q1 := hr.c9
    have z1 := hr.lt
    have hT := (OwnRes.same (base := w.heap.size + 2) (S := Sb S w (w.heap.size + 2)) hrB hB2 (by unfold maxLen; omega) rfl (HW.out.2.2.2.step hb.size fun k hk hl => ⟨⟨.inl hk, by omega⟩, hb.block k hl⟩)).node (fun k hk => .inr hk) (Pay.of 3) (Pay.of_wf ⟨by decide, by decide⟩)
    rw [List.map_replicate] at hT
    have HE := hid (And.intro (HW.out.2.2.1.trans (hb.mono (by simp; omega))) (And.intro hr hT))
    clear hr hb hT hrB
    go_wp2_with fail
    obtain ⟨cs', k1, k2, k3, k4⟩ := counted_end HE.out.1 HE.out.2.1 HE.out.2.2
    refine ret_row 6 28 rfl (w.heap.size + 1) rfl cs' (CellsAt.of_row (T := 28) k1) _ Tryd.underlying28 rfl (size_relen k2) rfl ?_
    refine ⟨cs', rfl, ?_, k4⟩
    rw [e1.out]
    exact k3
  have HT : Hid (∀ x, Grow (World.drew ((w.alloc (.cells #[.int .i64 p.op, .int .u64 p.set.a, .int .u64 p.set.b, .int .u64 p.set.c, .int .u64 p.set.d, .int .i64 p.lo, .int .i64 p.hi, .int .i64 p.gr, .slice ad m cap] 28)).alloc (.cells #[.int .i64 0, .int .u64 0, .int .u64 0, .int .u64 0, .int .u64 0, .int .i64 0, .int .i64 0, .int .i64 0, .slice none 0 0] 28))) x → t.InS (fun k => S k ∧ k < w.heap.size) x [.int .i64 p.op, .int .u64 p.set.a, .int .u64 p.set.b, .int .u64 p.set.c, .int .u64 p.set.d, .int .i64 p.lo, .int .i64 p.hi, .int .i64 p.gr, .slice ad m cap]) := fun x hx => (HW.out.2.2.2.below ((Below.refl _ ((w.alloc (.cells #[.int .i64 p.op, .int .u64 p.set.a, .int .u64 p.set.b, .int .u64 p.set.c, .int .u64 p.set.d, .int .i64 p.lo, .int .i64 p.hi, .int .i64 p.gr, .slice ad m cap] 28)).alloc (.cells #[.int .i64 0, .int .u64 0, .int .u64 0, .int .u64 0, .int .u64 0, .int .i64 0, .int .i64 0, .int .i64 0, .slice none 0 0] 28))).drew)).below hx
  have HS : Hid (∀ x, Grow (World.drew ((w.alloc (.cells #[.int .i64 p.op, .int .u64 p.set.a, .int .u64 p.set.b, .int .u64 p.set.c, .int .u64 p.set.d, .int .i64 p.lo, .int .i64 p.hi, .int .i64 p.gr, .slice ad m cap] 28)).alloc (.cells #[.int .i64 0, .int .u64 0, .int .u64 0, .int .u64 0, .int .u64 0, .int .i64 0, .int .i64 0, .int .i64 0, .slice none 0 0] 28))) x → w.heap.size + 2 ≤ x.heap.size) := fun x hx => by have := Grow.size hx; simp at this; omega
  have HC := hid (fun (x : World) (hx : Grow (World.drew ((w.alloc (.cells #[.int .i64 p.op, .int .u64 p.set.a, .int .u64 p.set.b, .int .u64 p.set.c, .int .u64 p.set.d, .int .i64 p.lo, .int .i64 p.hi, .int .i64 p.gr, .slice ad m cap] 28)).alloc (.cells #[.int .i64 0, .int .u64 0, .int .u64 0, .int .u64 0, .int .u64 0, .int .i64 0, .int .i64 0, .int .i64 0, .slice none 0 0] 28))) x) => (HW.out.1.drew.below hx HW.out.1.drew.lt).c9)
  obtain ⟨i0, hi0, hz0, hz1, hz2⟩ := info_parts info_re9
  by_cases c5 : hi = -1
  · skip
    obtain rfl := c5
    obtain ⟨n, rfl⟩ : ∃ n : Nat, lo = n + 1 := ⟨(lo - 1).toNat, by omega⟩
    have e1 := hid (show t.counted (n + 1) (-1) = .mk (Pay.of 3) (List.replicate n t ++ [t.rept 1 (-1)]) by unfold Re.counted; rw [if_neg c1, if_neg c2, if_neg c3, if_neg c4, if_pos rfl]; simp)
    have hn1 : 1 ≤ n := by omega
    have d1 : (((n : Nat) : Int) + 1 == 0) = false := by simp <;> omega
    have d2 : (((n : Nat) : Int) + 1 == 1) = false := by simp <;> omega
    have d3 : ((-1 : Int) == ((n : Nat) : Int) + 1) = false := by simp <;> omega
    clear hhi c1 c2 c3 c4
    go_enter Tryd.func43, Tryd.ntmps43
    go_wp2_with fail
    refine wp_region_inv 7 (Grow) (by kernel_rfl) (by kernel_rfl) (Grow.refl) (fun _ _ _ => Grow.trans) ?_
    simp only [fill, dstOf, Act.put, List.take_succ_cons, List.take_zero, List.getElem?_toArray, List.getElem?_cons_zero, List.getElem?_cons_succ, Option.bind_some, List.setIfInBounds_toArray, List.set_cons_zero, List.set_cons_succ]
    refine Plan.det 1 rfl (Grow.refl) ?_
    apply Exists.intro
    refine ⟨fun vs x hR hF K hK => ?_, ?_⟩
    · have hc := HC.out x hR; clear hF
      go_simp
      exact hK _ _ (Grow.refl _) rfl
    refine Plan.det 2 rfl (Grow.refl) ?_
    apply Exists.intro
    refine ⟨fun vs x hR hF K hK => ?_, ?_⟩
    · clear hF
      go_simp
      exact hK _ _ (Grow.refl _) rfl
    refine Plan.det 3 rfl (Grow.refl) ?_
    apply Exists.intro
    refine ⟨fun vs x hR hF K hK => ?_, ?_⟩
    · have f1 := hF 0 _ _ rfl rfl; clear hF
      go_simp
      exact hK _ _ (Grow.refl _) rfl
    refine Plan.rel 4 rfl (Grow.refl) (fun v y => ∃ B, v = .slice (some ⟨B, 0, none⟩) n n ∧ w.heap.size + 2 ≤ B ∧ Row y B (List.replicate n ([.int .i64 p.op, .int .u64 p.set.a, .int .u64 p.set.b, .int .u64 p.set.c, .int .u64 p.set.d, .int .i64 p.lo, .int .i64 p.hi, .int .i64 p.gr, .slice ad m cap] : List Value)).flatten 28) (fun v a b hR ⟨B, h1, h2, h3⟩ => ⟨B, h1, h2, h3.below hR h3.lt⟩) (fun vs x hR hF K hK => ?_) ?_
    · have f0 := hF 2 _ _ rfl rfl; have f2 := hF 0 _ _ rfl rfl
      go_simp
      refine (copies_any t n _ (IntWalk.i64_in _ (by omega)) x _ (HT.out x hR).self (by omega)).mono ?_
      rintro e x1 ⟨B, rfl, hB, hrB, hbe⟩
      exact ⟨_, rfl, hK _ _ hbe ⟨B, rfl, by have := HS.out x hR; omega, hrB⟩⟩
    refine Plan.det 5 rfl (Grow.refl) ?_
    apply Exists.intro
    refine ⟨fun vs x hR hF K hK => ?_, ?_⟩
    · have hc := HC.out x hR; clear hF
      go_simp
      exact hK _ _ (Grow.refl _) rfl
    refine Plan.rel 6 rfl (Grow.refl) (fun v y => ∃ cs' : List Value, v = .agg cs'.toArray ∧ (t.rept 1 (-1)).InS (Sb S w (w.heap.size + 2)) y cs') (fun v a b hR ⟨cs', h1, h2⟩ => ⟨cs', h1, h2.below hR⟩) (fun vs x hR hF K hK => ?_) ?_
    · have f3 := hF 1 _ _ rfl rfl; have f4 := hF 0 _ _ rfl rfl
      go_simp
      refine (repeat_any _ t 1 (-1) x _ (HT.out x hR) (by omega) (by omega)).mono ?_
      rintro e x1 ⟨cs', rfl, hin, hbe⟩
      exact ⟨_, rfl, hK _ _ hbe ⟨cs', rfl, hin.mono (Sb_mono (HS.out x hR))⟩⟩
    refine Plan.rel 7 rfl (Grow.refl) (fun v y => ∃ (b : Nat) (cs' : List Value), v = .slice (some ⟨b, 0, none⟩) 1 1 ∧ Row y b cs' 28 ∧ (t.rept 1 (-1)).InS (Sb S w (w.heap.size + 2)) y cs') (fun v a b hR ⟨B, cs', h1, h2, h3⟩ => ⟨B, cs', h1, h2.below hR h2.lt, h3.below hR⟩) (fun vs x hR hF K hK => ?_) ?_
    · have f5 := hF 0 _ _ rfl rfl
      obtain ⟨cs', e5, h5⟩ := f5
      obtain ⟨p', ad', m', cap', rfl⟩ := Re.cells_shape h5.self
      go_simp
      exact hK _ _ (Grow.alloc _ _) ⟨_, _, rfl, Row.at _ _ _, h5.below (Grow.alloc _ _)⟩
    refine Plan.nil (fun vs x hR hF => ?_)
    have f0 := hF 6 _ _ rfl; have f1 := hF 5 _ _ rfl; have f2 := hF 4 _ _ rfl; have f3 := hF 3 _ _ rfl; have f4 := hF 2 _ _ rfl; have f5 := hF 1 _ _ rfl; have f6 := hF 0 _ _ rfl
    clear hF
    simp only [f0, f1, f2, f4]
    clear f0 f1 f2 f4
    simp only [List.drop_succ_cons, List.drop_zero]
    obtain ⟨B, e3, hB, hrB⟩ := f3
    obtain ⟨cs5, e5, -⟩ := f5
    obtain ⟨b6, cs6, e6, hr6, hin6⟩ := f6
    obtain ⟨p', ad', m', cap', rfl⟩ := Re.cells_shape hin6.self
    simp only [e3, e5, e6]
    have HX2 := hid (And.intro (HT.out x hR) (And.intro hrB (And.intro hr6 hin6)))
    have HR := hid hR
    have hr := HW.out.2.1.drew.below hR HW.out.2.1.drew.lt
    have HRR := hid hr
    clear HC hR hrB hr6 hin6 e3 e5 e6 hr
    go_wp2_with (at_builtin; refine wpList_append_grows x rfl _ _ 26 rfl 28 i0 (.agg #[.int .i64 0, .int .u64 0, .int .u64 0, .int .u64 0, .int .u64 0, .int .i64 0, .int .i64 0, .int .i64 0, .slice none 0 0]) 9 88 Tryd.underlying26 hi0 hz0 hz1 hz2 rfl (by decide) (some ⟨B, 0, none⟩) n n (List.replicate n ([.int .i64 p.op, .int .u64 p.set.a, .int .u64 p.set.b, .int .u64 p.set.c, .int .u64 p.set.d, .int .i64 p.lo, .int .i64 p.hi, .int .i64 p.gr, .slice ad m cap] : List Value)).flatten rfl (fun h => by cases h) ?c1 ?c2 ⟨b6, 0, none⟩ 1 1 [.int .i64 p'.op, .int .u64 p'.set.a, .int .u64 p'.set.b, .int .u64 p'.set.c, .int .u64 p'.set.d, .int .i64 p'.lo, .int .i64 p'.hi, .int .i64 p'.gr, .slice ad' m' cap'] rfl ?c3 ?c4 ?c5 ?c6 ?c7 ?c8 ?_)
    case c1 => simp
    case c2 =>
      intro b' hb' j u hj
      obtain rfl := (Option.some.inj hb').symm
      rw [Addr.add_lit, Nat.zero_add, HX2.out.2.1.cell, hj]
    case c3 => simp
    case c4 =>
      intro j u hj
      rw [Addr.add_lit, Nat.zero_add, HX2.out.2.2.1.cell, hj]
    case c5 =>
      intro u hu
      have hu2 : u ∈ ([.int .i64 p'.op, .int .u64 p'.set.a, .int .u64 p'.set.b, .int .u64 p'.set.c, .int .u64 p'.set.d, .int .i64 p'.lo, .int .i64 p'.hi, .int .i64 p'.gr, .slice ad' m' cap'] : List Value) := by
        simpa using hu
      simp at hu2
      rcases hu2 with rfl | rfl | rfl | rfl | rfl | rfl | rfl | rfl | rfl <;> rfl
    case c6 => omega
    case c7 => unfold maxLen; omega
    case c8 => omega
    intro v' w1 ho hg
    have HOR : OwnRes w1 x.heap.size (Sb S w (w.heap.size + 2)) v' (List.replicate n (t, ([.int .i64 p.op, .int .u64 p.set.a, .int .u64 p.set.b, .int .u64 p.set.c, .int .u64 p.set.d, .int .i64 p.lo, .int .i64 p.hi, .int .i64 p.gr, .slice ad m cap] : List Value)) ++ [(t.rept 1 (-1), ([.int .i64 p'.op, .int .u64 p'.set.a, .int .u64 p'.set.b, .int .u64 p'.set.c, .int .u64 p'.set.d, .int .i64 p'.lo, .int .i64 p'.hi, .int .i64 p'.gr, .slice ad' m' cap'] : List Value))]) := OwnRes.of_grows ho hg (by simp <;> omega) (by simp [List.flatMap_replicate]) (by
      intro e he
      rcases List.mem_append.1 he with he | he
      · obtain rfl := List.eq_of_mem_replicate he
        exact HX2.out.1.mono fun k hk => .inl hk
      · obtain rfl := List.mem_singleton.1 he
        exact HX2.out.2.2.2)
    obtain ⟨a', c', rfl⟩ := ownsRow_shape ho
    have hb1 : Below x.heap.size x w1 := ⟨hg.os, hg.tape, hg.output, hg.size, fun k hk => hg.block k hk (by simp)⟩
    have hr1 := HRR.out.below (hb1.mono (Nat.le_refl _)) HRR.out.lt
    have q1 := hr1.c9
    have z1 := hr1.lt
    have hT := HOR.node (fun k hk => .inr (by have := HS.out x HR.out; omega)) (Pay.of 3) (Pay.of_wf ⟨by decide, by decide⟩)
    have eL : (List.replicate n (t, ([.int .i64 p.op, .int .u64 p.set.a, .int .u64 p.set.b, .int .u64 p.set.c, .int .u64 p.set.d, .int .i64 p.lo, .int .i64 p.hi, .int .i64 p.gr, .slice ad m cap] : List Value)) ++ [(t.rept 1 (-1), ([.int .i64 p'.op, .int .u64 p'.set.a, .int .u64 p'.set.b, .int .u64 p'.set.c, .int .u64 p'.set.d, .int .i64 p'.lo, .int .i64 p'.hi, .int .i64 p'.gr, .slice ad' m' cap'] : List Value))]).map Prod.fst = List.replicate n t ++ [t.rept 1 (-1)] := by simp
    rw [eL] at hT
    have HE := hid (And.intro ((HW.out.2.2.1.drew.trans (HR.out.mono HW.out.2.2.1.size)).trans (hb1.mono (by have := HS.out x HR.out; omega))) (And.intro hr1 hT))
    clear hb1 hr1 hT eL HOR ho hg hi0 hz0 hz1 hz2
    go_wp2_with fail
    obtain ⟨cs', k1, k2, k3, k4⟩ := counted_end HE.out.1 HE.out.2.1 HE.out.2.2
    refine ret_row 6 28 rfl (w.heap.size + 1) rfl cs' (CellsAt.of_row (T := 28) k1) _ Tryd.underlying28 rfl (size_relen k2) rfl ?_
    refine ⟨cs', rfl, ?_, k4⟩
    rw [e1.out]
    exact k3
  have h6 : lo ≤ hi ∧ hi ≤ 64 := by omega
  obtain ⟨h7, h8⟩ := h6
  obtain ⟨n, rfl⟩ := Int.eq_ofNat_of_zero_le hl1
  have e1 := hid (show t.counted n hi = .mk (Pay.of 3) (List.replicate n t ++ List.replicate (hi - n).toNat (t.rept 0 1)) by unfold Re.counted; rw [if_neg c1, if_neg c2, if_neg c3, if_neg c4, if_neg c5, Int.toNat_natCast])
  have HM : Hid (hi - n = (((hi - n).toNat : Nat) : Int) ∧ 1 ≤ (hi - n).toNat ∧ (hi - n).toNat ≤ 64) := ⟨by omega, by omega, by omega⟩
  have d1 : (hi == 0) = false := by simp <;> omega
  have d2 : (hi == ((n : Nat) : Int)) = false := by simp <;> omega
  have d3 : (hi == -1) = false := by simp <;> omega
  have hc : (n = 0 ∧ (hi == 1) = false ∧ (0 : Int) ≤ hi) ∨ (n = 1 ∧ (hi == 1) = false ∧ (1 : Int) ≤ hi) ∨ ((((n : Nat) : Int) == 0) = false ∧ (((n : Nat) : Int) == 1) = false ∧ 2 ≤ n) := by
    by_cases q0 : n = 0
    · subst q0; exact .inl ⟨rfl, by simp <;> omega, by omega⟩
    · by_cases q1 : n = 1
      · subst q1; exact .inr (.inl ⟨rfl, by simp <;> omega, by omega⟩)
      · exact .inr (.inr ⟨by simp <;> omega, by simp <;> omega, by omega⟩)
  generalize (hi - n).toNat = m2 at *
  clear hhi c1 c2 c3 c4 c5 hl1
  rcases hc with ⟨rfl, x1, x2⟩ | ⟨rfl, x1, x2⟩ | ⟨x1, x2, x3⟩
  · go_enter Tryd.func43, Tryd.ntmps43
    go_wp2_with fail
    refine wp_region_inv 9 (Grow) (by kernel_rfl) (by kernel_rfl) (Grow.refl) (fun _ _ _ => Grow.trans) ?_
    simp only [fill, dstOf, Act.put, List.take_succ_cons, List.take_zero, List.getElem?_toArray, List.getElem?_cons_zero, List.getElem?_cons_succ, Option.bind_some, List.setIfInBounds_toArray, List.set_cons_zero, List.set_cons_succ]
    refine Plan.det 1 rfl (Grow.refl) ?_
    apply Exists.intro
    refine ⟨fun vs x hR hF K hK => ?_, ?_⟩
    · have hc := HC.out x hR; clear hF
      go_simp
      exact hK _ _ (Grow.refl _) rfl
    refine Plan.det 2 rfl (Grow.refl) ?_
    apply Exists.intro
    refine ⟨fun vs x hR hF K hK => ?_, ?_⟩
    · clear hF
      go_simp
      exact hK _ _ (Grow.refl _) rfl
    refine Plan.rel 3 rfl (Grow.refl) (fun v y => ∃ B, v = .slice (some ⟨B, 0, none⟩) 0 0 ∧ w.heap.size + 2 ≤ B ∧ Row y B (List.replicate 0 ([.int .i64 p.op, .int .u64 p.set.a, .int .u64 p.set.b, .int .u64 p.set.c, .int .u64 p.set.d, .int .i64 p.lo, .int .i64 p.hi, .int .i64 p.gr, .slice ad m cap] : List Value)).flatten 28) (fun v a b hR ⟨B, h1, h2, h3⟩ => ⟨B, h1, h2, h3.below hR h3.lt⟩) (fun vs x hR hF K hK => ?_) ?_
    · have f0 := hF 1 _ _ rfl rfl; have f1 := hF 0 _ _ rfl rfl
      go_simp
      refine (copies_any t 0 _ (by omega) x _ (HT.out x hR).self (by omega)).mono ?_
      rintro e x1 ⟨B, rfl, hB, hrB, hbe⟩
      exact ⟨_, rfl, hK _ _ hbe ⟨B, rfl, by have := HS.out x hR; omega, hrB⟩⟩
    refine Plan.det 4 rfl (Grow.refl) ?_
    apply Exists.intro
    refine ⟨fun vs x hR hF K hK => ?_, ?_⟩
    · have hc := HC.out x hR; clear hF
      go_simp
      exact hK _ _ (Grow.refl _) rfl
    refine Plan.rel 5 rfl (Grow.refl) (fun v y => ∃ cs' : List Value, v = .agg cs'.toArray ∧ (t.rept 0 1).InS (Sb S w (w.heap.size + 2)) y cs') (fun v a b hR ⟨cs', h1, h2⟩ => ⟨cs', h1, h2.below hR⟩) (fun vs x hR hF K hK => ?_) ?_
    · have f2 := hF 1 _ _ rfl rfl; have f3 := hF 0 _ _ rfl rfl
      go_simp
      refine (repeat_any _ t 0 1 x _ (HT.out x hR) (by omega) (by omega)).mono ?_
      rintro e x1 ⟨cs', rfl, hin, hbe⟩
      exact ⟨_, rfl, hK _ _ hbe ⟨cs', rfl, hin.mono (Sb_mono (HS.out x hR))⟩⟩
    refine Plan.det 6 rfl (Grow.refl) ?_
    apply Exists.intro
    refine ⟨fun vs x hR hF K hK => ?_, ?_⟩
    · clear hF
      go_simp
      exact hK _ _ (Grow.refl _) rfl
    refine Plan.det 7 rfl (Grow.refl) ?_
    apply Exists.intro
    refine ⟨fun vs x hR hF K hK => ?_, ?_⟩
    · clear hF
      go_simp
      exact hK _ _ (Grow.refl _) rfl
    refine Plan.det 8 rfl (Grow.refl) ?_
    apply Exists.intro
    refine ⟨fun vs x hR hF K hK => ?_, ?_⟩
    · have f5 := hF 1 _ _ rfl rfl; have f6 := hF 0 _ _ rfl rfl; clear hF
      go_simp
      exact hK _ _ (Grow.refl _) rfl
    refine Plan.rel 9 rfl (Grow.refl) (fun v y => ∃ (b : Nat) (cs' : List Value), v = .slice (some ⟨b, 0, none⟩) m2 m2 ∧ Row y b (List.replicate m2 cs').flatten 28 ∧ (t.rept 0 1).InS (Sb S w (w.heap.size + 2)) y cs') (fun v a b hR ⟨B, cs', h1, h2, h3⟩ => ⟨B, cs', h1, h2.below hR h2.lt, h3.below hR⟩) (fun vs x hR hF K hK => ?_) ?_
    · have f4 := hF 3 _ _ rfl rfl; have f7 := hF 0 _ _ rfl rfl
      obtain ⟨cs', e5, h5⟩ := f4
      obtain ⟨p', ad', m', cap', rfl⟩ := Re.cells_shape h5.self
      go_simp
      refine (copies_any (t.rept 0 1) m2 _ (by rw [IntWalk.i64_in _ (by omega)]; have := HM.out; omega) x _ h5.self HM.out.2.2).mono ?_
      rintro e x1 ⟨B, rfl, hB, hrB, hbe⟩
      exact ⟨_, rfl, hK _ _ hbe ⟨B, _, rfl, hrB, h5.below hbe⟩⟩
    refine Plan.nil (fun vs x hR hF => ?_)
    have f0 := hF 8 _ _ rfl; have f1 := hF 7 _ _ rfl; have f2 := hF 6 _ _ rfl; have f3 := hF 5 _ _ rfl; have f4 := hF 4 _ _ rfl; have f5 := hF 3 _ _ rfl; have f6 := hF 2 _ _ rfl; have f7 := hF 1 _ _ rfl; have f8 := hF 0 _ _ rfl
    clear hF
    simp only [f0, f1, f3, f5, f6, f7]
    clear f0 f1 f3 f5 f6 f7
    simp only [List.drop_succ_cons, List.drop_zero]
    obtain ⟨B, e3, hB, hrB⟩ := f2
    obtain ⟨cs5, e5, -⟩ := f4
    obtain ⟨b6, cs6, e6, hr6, hin6⟩ := f8
    obtain ⟨p', ad', m', cap', rfl⟩ := Re.cells_shape hin6.self
    simp only [e3, e5, e6]
    have HX2 := hid (And.intro (HT.out x hR) (And.intro hrB (And.intro hr6 hin6)))
    have HR := hid hR
    have hr := HW.out.2.1.drew.below hR HW.out.2.1.drew.lt
    have HRR := hid hr
    clear HC hR hrB hr6 hin6 e3 e5 e6 hr
    go_wp2_with (at_builtin; refine wpList_append_grows x rfl _ _ 26 rfl 28 i0 (.agg #[.int .i64 0, .int .u64 0, .int .u64 0, .int .u64 0, .int .u64 0, .int .i64 0, .int .i64 0, .int .i64 0, .slice none 0 0]) 9 88 Tryd.underlying26 hi0 hz0 hz1 hz2 rfl (by decide) (some ⟨B, 0, none⟩) 0 0 (List.replicate 0 ([.int .i64 p.op, .int .u64 p.set.a, .int .u64 p.set.b, .int .u64 p.set.c, .int .u64 p.set.d, .int .i64 p.lo, .int .i64 p.hi, .int .i64 p.gr, .slice ad m cap] : List Value)).flatten rfl (fun h => by cases h) ?c1 ?c2 ⟨b6, 0, none⟩ m2 m2 (List.replicate m2 ([.int .i64 p'.op, .int .u64 p'.set.a, .int .u64 p'.set.b, .int .u64 p'.set.c, .int .u64 p'.set.d, .int .i64 p'.lo, .int .i64 p'.hi, .int .i64 p'.gr, .slice ad' m' cap'] : List Value)).flatten rfl ?c3 ?c4 ?c5 ?c6 ?c7 ?c8 ?_)
    case c1 => simp
    case c2 =>
      intro b' hb' j u hj
      obtain rfl := (Option.some.inj hb').symm
      rw [Addr.add_lit, Nat.zero_add, HX2.out.2.1.cell, hj]
    case c3 => simp
    case c4 =>
      intro j u hj
      rw [Addr.add_lit, Nat.zero_add, HX2.out.2.2.1.cell, hj]
    case c5 =>
      intro u hu
      have hu2 : u ∈ ([.int .i64 p'.op, .int .u64 p'.set.a, .int .u64 p'.set.b, .int .u64 p'.set.c, .int .u64 p'.set.d, .int .i64 p'.lo, .int .i64 p'.hi, .int .i64 p'.gr, .slice ad' m' cap'] : List Value) := by
        have h2 := List.mem_flatten.1 hu
        obtain ⟨l', hl', hu'⟩ := h2
        rwa [List.eq_of_mem_replicate hl'] at hu'
      simp at hu2
      rcases hu2 with rfl | rfl | rfl | rfl | rfl | rfl | rfl | rfl | rfl <;> rfl
    case c6 => have := HM.out; omega
    case c7 => have := HM.out; unfold maxLen; omega
    case c8 => have := HM.out; omega
    intro v' w1 ho hg
    have HOR : OwnRes w1 x.heap.size (Sb S w (w.heap.size + 2)) v' (List.replicate 0 (t, ([.int .i64 p.op, .int .u64 p.set.a, .int .u64 p.set.b, .int .u64 p.set.c, .int .u64 p.set.d, .int .i64 p.lo, .int .i64 p.hi, .int .i64 p.gr, .slice ad m cap] : List Value)) ++ List.replicate m2 (t.rept 0 1, ([.int .i64 p'.op, .int .u64 p'.set.a, .int .u64 p'.set.b, .int .u64 p'.set.c, .int .u64 p'.set.d, .int .i64 p'.lo, .int .i64 p'.hi, .int .i64 p'.gr, .slice ad' m' cap'] : List Value))) := OwnRes.of_grows ho hg (by simp <;> omega) (by simp [List.flatMap_replicate]) (by
      intro e he
      rcases List.mem_append.1 he with he | he
      · obtain rfl := List.eq_of_mem_replicate he
        exact HX2.out.1.mono fun k hk => .inl hk
      · obtain rfl := List.eq_of_mem_replicate he
        exact HX2.out.2.2.2)
    obtain ⟨a', c', rfl⟩ := ownsRow_shape ho
    have hb1 : Below x.heap.size x w1 := ⟨hg.os, hg.tape, hg.output, hg.size, fun k hk => hg.block k hk (by simp)⟩
    have hr1 := HRR.out.below (hb1.mono (Nat.le_refl _)) HRR.out.lt
    have q1 := hr1.c9
    have z1 := hr1.lt
    have hT := HOR.node (fun k hk => .inr (by have := HS.out x HR.out; omega)) (Pay.of 3) (Pay.of_wf ⟨by decide, by decide⟩)
    have eL : (List.replicate 0 (t, ([.int .i64 p.op, .int .u64 p.set.a, .int .u64 p.set.b, .int .u64 p.set.c, .int .u64 p.set.d, .int .i64 p.lo, .int .i64 p.hi, .int .i64 p.gr, .slice ad m cap] : List Value)) ++ List.replicate m2 (t.rept 0 1, ([.int .i64 p'.op, .int .u64 p'.set.a, .int .u64 p'.set.b, .int .u64 p'.set.c, .int .u64 p'.set.d, .int .i64 p'.lo, .int .i64 p'.hi, .int .i64 p'.gr, .slice ad' m' cap'] : List Value))).map Prod.fst = List.replicate 0 t ++ List.replicate m2 (t.rept 0 1) := by simp
    rw [eL] at hT
    have HE := hid (And.intro ((HW.out.2.2.1.drew.trans (HR.out.mono HW.out.2.2.1.size)).trans (hb1.mono (by have := HS.out x HR.out; omega))) (And.intro hr1 hT))
    clear hb1 hr1 hT eL HOR ho hg hi0 hz0 hz1 hz2 d1 d2 d3 h7 h8 x1 x2
    go_wp2_with fail
    obtain ⟨cs', k1, k2, k3, k4⟩ := counted_end HE.out.1 HE.out.2.1 HE.out.2.2
    refine ret_row 6 28 rfl (w.heap.size + 1) rfl cs' (CellsAt.of_row (T := 28) k1) _ Tryd.underlying28 rfl (size_relen k2) rfl ?_
    refine ⟨cs', rfl, ?_, k4⟩
    rw [e1.out]
    exact k3
  · go_enter Tryd.func43, Tryd.ntmps43
    go_wp2_with fail
    refine wp_region_inv 9 (Grow) (by kernel_rfl) (by kernel_rfl) (Grow.refl) (fun _ _ _ => Grow.trans) ?_
    simp only [fill, dstOf, Act.put, List.take_succ_cons, List.take_zero, List.getElem?_toArray, List.getElem?_cons_zero, List.getElem?_cons_succ, Option.bind_some, List.setIfInBounds_toArray, List.set_cons_zero, List.set_cons_succ]
    refine Plan.det 1 rfl (Grow.refl) ?_
    apply Exists.intro
    refine ⟨fun vs x hR hF K hK => ?_, ?_⟩
    · have hc := HC.out x hR; clear hF
      go_simp
      exact hK _ _ (Grow.refl _) rfl
    refine Plan.det 2 rfl (Grow.refl) ?_
    apply Exists.intro
    refine ⟨fun vs x hR hF K hK => ?_, ?_⟩
    · clear hF
      go_simp
      exact hK _ _ (Grow.refl _) rfl
    refine Plan.rel 3 rfl (Grow.refl) (fun v y => ∃ B, v = .slice (some ⟨B, 0, none⟩) 1 1 ∧ w.heap.size + 2 ≤ B ∧ Row y B (List.replicate 1 ([.int .i64 p.op, .int .u64 p.set.a, .int .u64 p.set.b, .int .u64 p.set.c, .int .u64 p.set.d, .int .i64 p.lo, .int .i64 p.hi, .int .i64 p.gr, .slice ad m cap] : List Value)).flatten 28) (fun v a b hR ⟨B, h1, h2, h3⟩ => ⟨B, h1, h2, h3.below hR h3.lt⟩) (fun vs x hR hF K hK => ?_) ?_
    · have f0 := hF 1 _ _ rfl rfl; have f1 := hF 0 _ _ rfl rfl
      go_simp
      refine (copies_any t 1 _ (by omega) x _ (HT.out x hR).self (by omega)).mono ?_
      rintro e x1 ⟨B, rfl, hB, hrB, hbe⟩
      exact ⟨_, rfl, hK _ _ hbe ⟨B, rfl, by have := HS.out x hR; omega, hrB⟩⟩
    refine Plan.det 4 rfl (Grow.refl) ?_
    apply Exists.intro
    refine ⟨fun vs x hR hF K hK => ?_, ?_⟩
    · have hc := HC.out x hR; clear hF
      go_simp
      exact hK _ _ (Grow.refl _) rfl
    refine Plan.rel 5 rfl (Grow.refl) (fun v y => ∃ cs' : List Value, v = .agg cs'.toArray ∧ (t.rept 0 1).InS (Sb S w (w.heap.size + 2)) y cs') (fun v a b hR ⟨cs', h1, h2⟩ => ⟨cs', h1, h2.below hR⟩) (fun vs x hR hF K hK => ?_) ?_
    · have f2 := hF 1 _ _ rfl rfl; have f3 := hF 0 _ _ rfl rfl
      go_simp
      refine (repeat_any _ t 0 1 x _ (HT.out x hR) (by omega) (by omega)).mono ?_
      rintro e x1 ⟨cs', rfl, hin, hbe⟩
      exact ⟨_, rfl, hK _ _ hbe ⟨cs', rfl, hin.mono (Sb_mono (HS.out x hR))⟩⟩
    refine Plan.det 6 rfl (Grow.refl) ?_
    apply Exists.intro
    refine ⟨fun vs x hR hF K hK => ?_, ?_⟩
    · clear hF
      go_simp
      exact hK _ _ (Grow.refl _) rfl
    refine Plan.det 7 rfl (Grow.refl) ?_
    apply Exists.intro
    refine ⟨fun vs x hR hF K hK => ?_, ?_⟩
    · clear hF
      go_simp
      exact hK _ _ (Grow.refl _) rfl
    refine Plan.det 8 rfl (Grow.refl) ?_
    apply Exists.intro
    refine ⟨fun vs x hR hF K hK => ?_, ?_⟩
    · have f5 := hF 1 _ _ rfl rfl; have f6 := hF 0 _ _ rfl rfl; clear hF
      go_simp
      exact hK _ _ (Grow.refl _) rfl
    refine Plan.rel 9 rfl (Grow.refl) (fun v y => ∃ (b : Nat) (cs' : List Value), v = .slice (some ⟨b, 0, none⟩) m2 m2 ∧ Row y b (List.replicate m2 cs').flatten 28 ∧ (t.rept 0 1).InS (Sb S w (w.heap.size + 2)) y cs') (fun v a b hR ⟨B, cs', h1, h2, h3⟩ => ⟨B, cs', h1, h2.below hR h2.lt, h3.below hR⟩) (fun vs x hR hF K hK => ?_) ?_
    · have f4 := hF 3 _ _ rfl rfl; have f7 := hF 0 _ _ rfl rfl
      obtain ⟨cs', e5, h5⟩ := f4
      obtain ⟨p', ad', m', cap', rfl⟩ := Re.cells_shape h5.self
      go_simp
      refine (copies_any (t.rept 0 1) m2 _ (by rw [IntWalk.i64_in _ (by omega)]; have := HM.out; omega) x _ h5.self HM.out.2.2).mono ?_
      rintro e x1 ⟨B, rfl, hB, hrB, hbe⟩
      exact ⟨_, rfl, hK _ _ hbe ⟨B, _, rfl, hrB, h5.below hbe⟩⟩
    refine Plan.nil (fun vs x hR hF => ?_)
    have f0 := hF 8 _ _ rfl; have f1 := hF 7 _ _ rfl; have f2 := hF 6 _ _ rfl; have f3 := hF 5 _ _ rfl; have f4 := hF 4 _ _ rfl; have f5 := hF 3 _ _ rfl; have f6 := hF 2 _ _ rfl; have f7 := hF 1 _ _ rfl; have f8 := hF 0 _ _ rfl
    clear hF
    simp only [f0, f1, f3, f5, f6, f7]
    clear f0 f1 f3 f5 f6 f7
    simp only [List.drop_succ_cons, List.drop_zero]
    obtain ⟨B, e3, hB, hrB⟩ := f2
    obtain ⟨cs5, e5, -⟩ := f4
    obtain ⟨b6, cs6, e6, hr6, hin6⟩ := f8
    obtain ⟨p', ad', m', cap', rfl⟩ := Re.cells_shape hin6.self
    simp only [e3, e5, e6]
    have HX2 := hid (And.intro (HT.out x hR) (And.intro hrB (And.intro hr6 hin6)))
    have HR := hid hR
    have hr := HW.out.2.1.drew.below hR HW.out.2.1.drew.lt
    have HRR := hid hr
    clear HC hR hrB hr6 hin6 e3 e5 e6 hr
    go_wp2_with (at_builtin; refine wpList_append_grows x rfl _ _ 26 rfl 28 i0 (.agg #[.int .i64 0, .int .u64 0, .int .u64 0, .int .u64 0, .int .u64 0, .int .i64 0, .int .i64 0, .int .i64 0, .slice none 0 0]) 9 88 Tryd.underlying26 hi0 hz0 hz1 hz2 rfl (by decide) (some ⟨B, 0, none⟩) 1 1 (List.replicate 1 ([.int .i64 p.op, .int .u64 p.set.a, .int .u64 p.set.b, .int .u64 p.set.c, .int .u64 p.set.d, .int .i64 p.lo, .int .i64 p.hi, .int .i64 p.gr, .slice ad m cap] : List Value)).flatten rfl (fun h => by cases h) ?c1 ?c2 ⟨b6, 0, none⟩ m2 m2 (List.replicate m2 ([.int .i64 p'.op, .int .u64 p'.set.a, .int .u64 p'.set.b, .int .u64 p'.set.c, .int .u64 p'.set.d, .int .i64 p'.lo, .int .i64 p'.hi, .int .i64 p'.gr, .slice ad' m' cap'] : List Value)).flatten rfl ?c3 ?c4 ?c5 ?c6 ?c7 ?c8 ?_)
    case c1 => simp
    case c2 =>
      intro b' hb' j u hj
      obtain rfl := (Option.some.inj hb').symm
      rw [Addr.add_lit, Nat.zero_add, HX2.out.2.1.cell, hj]
    case c3 => simp
    case c4 =>
      intro j u hj
      rw [Addr.add_lit, Nat.zero_add, HX2.out.2.2.1.cell, hj]
    case c5 =>
      intro u hu
      have hu2 : u ∈ ([.int .i64 p'.op, .int .u64 p'.set.a, .int .u64 p'.set.b, .int .u64 p'.set.c, .int .u64 p'.set.d, .int .i64 p'.lo, .int .i64 p'.hi, .int .i64 p'.gr, .slice ad' m' cap'] : List Value) := by
        have h2 := List.mem_flatten.1 hu
        obtain ⟨l', hl', hu'⟩ := h2
        rwa [List.eq_of_mem_replicate hl'] at hu'
      simp at hu2
      rcases hu2 with rfl | rfl | rfl | rfl | rfl | rfl | rfl | rfl | rfl <;> rfl
    case c6 => have := HM.out; omega
    case c7 => have := HM.out; unfold maxLen; omega
    case c8 => have := HM.out; omega
    intro v' w1 ho hg
    have HOR : OwnRes w1 x.heap.size (Sb S w (w.heap.size + 2)) v' (List.replicate 1 (t, ([.int .i64 p.op, .int .u64 p.set.a, .int .u64 p.set.b, .int .u64 p.set.c, .int .u64 p.set.d, .int .i64 p.lo, .int .i64 p.hi, .int .i64 p.gr, .slice ad m cap] : List Value)) ++ List.replicate m2 (t.rept 0 1, ([.int .i64 p'.op, .int .u64 p'.set.a, .int .u64 p'.set.b, .int .u64 p'.set.c, .int .u64 p'.set.d, .int .i64 p'.lo, .int .i64 p'.hi, .int .i64 p'.gr, .slice ad' m' cap'] : List Value))) := OwnRes.of_grows ho hg (by simp <;> omega) (by simp [List.flatMap_replicate]) (by
      intro e he
      rcases List.mem_append.1 he with he | he
      · obtain rfl := List.eq_of_mem_replicate he
        exact HX2.out.1.mono fun k hk => .inl hk
      · obtain rfl := List.eq_of_mem_replicate he
        exact HX2.out.2.2.2)
    obtain ⟨a', c', rfl⟩ := ownsRow_shape ho
    have hb1 : Below x.heap.size x w1 := ⟨hg.os, hg.tape, hg.output, hg.size, fun k hk => hg.block k hk (by simp)⟩
    have hr1 := HRR.out.below (hb1.mono (Nat.le_refl _)) HRR.out.lt
    have q1 := hr1.c9
    have z1 := hr1.lt
    have hT := HOR.node (fun k hk => .inr (by have := HS.out x HR.out; omega)) (Pay.of 3) (Pay.of_wf ⟨by decide, by decide⟩)
    have eL : (List.replicate 1 (t, ([.int .i64 p.op, .int .u64 p.set.a, .int .u64 p.set.b, .int .u64 p.set.c, .int .u64 p.set.d, .int .i64 p.lo, .int .i64 p.hi, .int .i64 p.gr, .slice ad m cap] : List Value)) ++ List.replicate m2 (t.rept 0 1, ([.int .i64 p'.op, .int .u64 p'.set.a, .int .u64 p'.set.b, .int .u64 p'.set.c, .int .u64 p'.set.d, .int .i64 p'.lo, .int .i64 p'.hi, .int .i64 p'.gr, .slice ad' m' cap'] : List Value))).map Prod.fst = List.replicate 1 t ++ List.replicate m2 (t.rept 0 1) := by simp
    rw [eL] at hT
    have HE := hid (And.intro ((HW.out.2.2.1.drew.trans (HR.out.mono HW.out.2.2.1.size)).trans (hb1.mono (by have := HS.out x HR.out; omega))) (And.intro hr1 hT))
    clear hb1 hr1 hT eL HOR ho hg hi0 hz0 hz1 hz2 d1 d2 d3 h7 h8 x1 x2
    go_wp2_with fail
    obtain ⟨cs', k1, k2, k3, k4⟩ := counted_end HE.out.1 HE.out.2.1 HE.out.2.2
    refine ret_row 6 28 rfl (w.heap.size + 1) rfl cs' (CellsAt.of_row (T := 28) k1) _ Tryd.underlying28 rfl (size_relen k2) rfl ?_
    refine ⟨cs', rfl, ?_, k4⟩
    rw [e1.out]
    exact k3
  · go_enter Tryd.func43, Tryd.ntmps43
    go_wp2_with fail
    refine wp_region_inv 9 (Grow) (by kernel_rfl) (by kernel_rfl) (Grow.refl) (fun _ _ _ => Grow.trans) ?_
    simp only [fill, dstOf, Act.put, List.take_succ_cons, List.take_zero, List.getElem?_toArray, List.getElem?_cons_zero, List.getElem?_cons_succ, Option.bind_some, List.setIfInBounds_toArray, List.set_cons_zero, List.set_cons_succ]
    refine Plan.det 1 rfl (Grow.refl) ?_
    apply Exists.intro
    refine ⟨fun vs x hR hF K hK => ?_, ?_⟩
    · have hc := HC.out x hR; clear hF
      go_simp
      exact hK _ _ (Grow.refl _) rfl
    refine Plan.det 2 rfl (Grow.refl) ?_
    apply Exists.intro
    refine ⟨fun vs x hR hF K hK => ?_, ?_⟩
    · clear hF
      go_simp
      exact hK _ _ (Grow.refl _) rfl
    refine Plan.rel 3 rfl (Grow.refl) (fun v y => ∃ B, v = .slice (some ⟨B, 0, none⟩) n n ∧ w.heap.size + 2 ≤ B ∧ Row y B (List.replicate n ([.int .i64 p.op, .int .u64 p.set.a, .int .u64 p.set.b, .int .u64 p.set.c, .int .u64 p.set.d, .int .i64 p.lo, .int .i64 p.hi, .int .i64 p.gr, .slice ad m cap] : List Value)).flatten 28) (fun v a b hR ⟨B, h1, h2, h3⟩ => ⟨B, h1, h2, h3.below hR h3.lt⟩) (fun vs x hR hF K hK => ?_) ?_
    · have f0 := hF 1 _ _ rfl rfl; have f1 := hF 0 _ _ rfl rfl
      go_simp
      refine (copies_any t n _ (by omega) x _ (HT.out x hR).self (by omega)).mono ?_
      rintro e x1 ⟨B, rfl, hB, hrB, hbe⟩
      exact ⟨_, rfl, hK _ _ hbe ⟨B, rfl, by have := HS.out x hR; omega, hrB⟩⟩
    refine Plan.det 4 rfl (Grow.refl) ?_
    apply Exists.intro
    refine ⟨fun vs x hR hF K hK => ?_, ?_⟩
    · have hc := HC.out x hR; clear hF
      go_simp
      exact hK _ _ (Grow.refl _) rfl
    refine Plan.rel 5 rfl (Grow.refl) (fun v y => ∃ cs' : List Value, v = .agg cs'.toArray ∧ (t.rept 0 1).InS (Sb S w (w.heap.size + 2)) y cs') (fun v a b hR ⟨cs', h1, h2⟩ => ⟨cs', h1, h2.below hR⟩) (fun vs x hR hF K hK => ?_) ?_
    · have f2 := hF 1 _ _ rfl rfl; have f3 := hF 0 _ _ rfl rfl
      go_simp
      refine (repeat_any _ t 0 1 x _ (HT.out x hR) (by omega) (by omega)).mono ?_
      rintro e x1 ⟨cs', rfl, hin, hbe⟩
      exact ⟨_, rfl, hK _ _ hbe ⟨cs', rfl, hin.mono (Sb_mono (HS.out x hR))⟩⟩
    refine Plan.det 6 rfl (Grow.refl) ?_
    apply Exists.intro
    refine ⟨fun vs x hR hF K hK => ?_, ?_⟩
    · clear hF
      go_simp
      exact hK _ _ (Grow.refl _) rfl
    refine Plan.det 7 rfl (Grow.refl) ?_
    apply Exists.intro
    refine ⟨fun vs x hR hF K hK => ?_, ?_⟩
    · clear hF
      go_simp
      exact hK _ _ (Grow.refl _) rfl
    refine Plan.det 8 rfl (Grow.refl) ?_
    apply Exists.intro
    refine ⟨fun vs x hR hF K hK => ?_, ?_⟩
    · have f5 := hF 1 _ _ rfl rfl; have f6 := hF 0 _ _ rfl rfl; clear hF
      go_simp
      exact hK _ _ (Grow.refl _) rfl
    refine Plan.rel 9 rfl (Grow.refl) (fun v y => ∃ (b : Nat) (cs' : List Value), v = .slice (some ⟨b, 0, none⟩) m2 m2 ∧ Row y b (List.replicate m2 cs').flatten 28 ∧ (t.rept 0 1).InS (Sb S w (w.heap.size + 2)) y cs') (fun v a b hR ⟨B, cs', h1, h2, h3⟩ => ⟨B, cs', h1, h2.below hR h2.lt, h3.below hR⟩) (fun vs x hR hF K hK => ?_) ?_
    · have f4 := hF 3 _ _ rfl rfl; have f7 := hF 0 _ _ rfl rfl
      obtain ⟨cs', e5, h5⟩ := f4
      obtain ⟨p', ad', m', cap', rfl⟩ := Re.cells_shape h5.self
      go_simp
      refine (copies_any (t.rept 0 1) m2 _ (by rw [IntWalk.i64_in _ (by omega)]; have := HM.out; omega) x _ h5.self HM.out.2.2).mono ?_
      rintro e x1 ⟨B, rfl, hB, hrB, hbe⟩
      exact ⟨_, rfl, hK _ _ hbe ⟨B, _, rfl, hrB, h5.below hbe⟩⟩
    refine Plan.nil (fun vs x hR hF => ?_)
    have f0 := hF 8 _ _ rfl; have f1 := hF 7 _ _ rfl; have f2 := hF 6 _ _ rfl; have f3 := hF 5 _ _ rfl; have f4 := hF 4 _ _ rfl; have f5 := hF 3 _ _ rfl; have f6 := hF 2 _ _ rfl; have f7 := hF 1 _ _ rfl; have f8 := hF 0 _ _ rfl
    clear hF
    simp only [f0, f1, f3, f5, f6, f7]
    clear f0 f1 f3 f5 f6 f7
    simp only [List.drop_succ_cons, List.drop_zero]
    obtain ⟨B, e3, hB, hrB⟩ := f2
    obtain ⟨cs5, e5, -⟩ := f4
    obtain ⟨b6, cs6, e6, hr6, hin6⟩ := f8
    obtain ⟨p', ad', m', cap', rfl⟩ := Re.cells_shape hin6.self
    simp only [e3, e5, e6]
    have HX2 := hid (And.intro (HT.out x hR) (And.intro hrB (And.intro hr6 hin6)))
    have HR := hid hR
    have hr := HW.out.2.1.drew.below hR HW.out.2.1.drew.lt
    have HRR := hid hr
    clear HC hR hrB hr6 hin6 e3 e5 e6 hr
    go_wp2_with (at_builtin; refine wpList_append_grows x rfl _ _ 26 rfl 28 i0 (.agg #[.int .i64 0, .int .u64 0, .int .u64 0, .int .u64 0, .int .u64 0, .int .i64 0, .int .i64 0, .int .i64 0, .slice none 0 0]) 9 88 Tryd.underlying26 hi0 hz0 hz1 hz2 rfl (by decide) (some ⟨B, 0, none⟩) n n (List.replicate n ([.int .i64 p.op, .int .u64 p.set.a, .int .u64 p.set.b, .int .u64 p.set.c, .int .u64 p.set.d, .int .i64 p.lo, .int .i64 p.hi, .int .i64 p.gr, .slice ad m cap] : List Value)).flatten rfl (fun h => by cases h) ?c1 ?c2 ⟨b6, 0, none⟩ m2 m2 (List.replicate m2 ([.int .i64 p'.op, .int .u64 p'.set.a, .int .u64 p'.set.b, .int .u64 p'.set.c, .int .u64 p'.set.d, .int .i64 p'.lo, .int .i64 p'.hi, .int .i64 p'.gr, .slice ad' m' cap'] : List Value)).flatten rfl ?c3 ?c4 ?c5 ?c6 ?c7 ?c8 ?_)
    case c1 => simp
    case c2 =>
      intro b' hb' j u hj
      obtain rfl := (Option.some.inj hb').symm
      rw [Addr.add_lit, Nat.zero_add, HX2.out.2.1.cell, hj]
    case c3 => simp
    case c4 =>
      intro j u hj
      rw [Addr.add_lit, Nat.zero_add, HX2.out.2.2.1.cell, hj]
    case c5 =>
      intro u hu
      have hu2 : u ∈ ([.int .i64 p'.op, .int .u64 p'.set.a, .int .u64 p'.set.b, .int .u64 p'.set.c, .int .u64 p'.set.d, .int .i64 p'.lo, .int .i64 p'.hi, .int .i64 p'.gr, .slice ad' m' cap'] : List Value) := by
        have h2 := List.mem_flatten.1 hu
        obtain ⟨l', hl', hu'⟩ := h2
        rwa [List.eq_of_mem_replicate hl'] at hu'
      simp at hu2
      rcases hu2 with rfl | rfl | rfl | rfl | rfl | rfl | rfl | rfl | rfl <;> rfl
    case c6 => have := HM.out; omega
    case c7 => have := HM.out; unfold maxLen; omega
    case c8 => have := HM.out; omega
    intro v' w1 ho hg
    have HOR : OwnRes w1 x.heap.size (Sb S w (w.heap.size + 2)) v' (List.replicate n (t, ([.int .i64 p.op, .int .u64 p.set.a, .int .u64 p.set.b, .int .u64 p.set.c, .int .u64 p.set.d, .int .i64 p.lo, .int .i64 p.hi, .int .i64 p.gr, .slice ad m cap] : List Value)) ++ List.replicate m2 (t.rept 0 1, ([.int .i64 p'.op, .int .u64 p'.set.a, .int .u64 p'.set.b, .int .u64 p'.set.c, .int .u64 p'.set.d, .int .i64 p'.lo, .int .i64 p'.hi, .int .i64 p'.gr, .slice ad' m' cap'] : List Value))) := OwnRes.of_grows ho hg (by simp <;> omega) (by simp [List.flatMap_replicate]) (by
      intro e he
      rcases List.mem_append.1 he with he | he
      · obtain rfl := List.eq_of_mem_replicate he
        exact HX2.out.1.mono fun k hk => .inl hk
      · obtain rfl := List.eq_of_mem_replicate he
        exact HX2.out.2.2.2)
    obtain ⟨a', c', rfl⟩ := ownsRow_shape ho
    have hb1 : Below x.heap.size x w1 := ⟨hg.os, hg.tape, hg.output, hg.size, fun k hk => hg.block k hk (by simp)⟩
    have hr1 := HRR.out.below (hb1.mono (Nat.le_refl _)) HRR.out.lt
    have q1 := hr1.c9
    have z1 := hr1.lt
    have hT := HOR.node (fun k hk => .inr (by have := HS.out x HR.out; omega)) (Pay.of 3) (Pay.of_wf ⟨by decide, by decide⟩)
    have eL : (List.replicate n (t, ([.int .i64 p.op, .int .u64 p.set.a, .int .u64 p.set.b, .int .u64 p.set.c, .int .u64 p.set.d, .int .i64 p.lo, .int .i64 p.hi, .int .i64 p.gr, .slice ad m cap] : List Value)) ++ List.replicate m2 (t.rept 0 1, ([.int .i64 p'.op, .int .u64 p'.set.a, .int .u64 p'.set.b, .int .u64 p'.set.c, .int .u64 p'.set.d, .int .i64 p'.lo, .int .i64 p'.hi, .int .i64 p'.gr, .slice ad' m' cap'] : List Value))).map Prod.fst = List.replicate n t ++ List.replicate m2 (t.rept 0 1) := by simp
    rw [eL] at hT
    have HE := hid (And.intro ((HW.out.2.2.1.drew.trans (HR.out.mono HW.out.2.2.1.size)).trans (hb1.mono (by have := HS.out x HR.out; omega))) (And.intro hr1 hT))
    clear hb1 hr1 hT eL HOR ho hg hi0 hz0 hz1 hz2 d1 d2 d3 h7 h8 x1 x2
    go_wp2_with fail
    obtain ⟨cs', k1, k2, k3, k4⟩ := counted_end HE.out.1 HE.out.2.1 HE.out.2.2
    refine ret_row 6 28 rfl (w.heap.size + 1) rfl cs' (CellsAt.of_row (T := 28) k1) _ Tryd.underlying28 rfl (size_relen k2) rfl ?_
    refine ⟨cs', rfl, ?_, k4⟩
    rw [e1.out]
    exact k3
end Go.Proofs.YthnpbopnpdlmnaaDoor
