/- The reference of the parses: anchors and back references. -/
import Derived.Test.YthnpbopnpdlmnaaX28
namespace Go.Proofs.Ythnpbopnpdlmnaa
open Go.RowKit
attribute [local go_sem] gives givesUpon

def holdsOf (s : List UInt8) (lines : Bool) (op : Int) (i : Nat) : Bool :=
  if op = 7 then decide (i = 0) || lines && decide (byteAt s (i - 1) = 10) else decide (i = s.length) || lines && decide (byteAt s i = 10)
def againOf (s : List UInt8) (g : Int × Int) (i : Nat) : Bool :=
  decide (0 ≤ g.1) && decide (i + (g.2 - g.1).toNat ≤ s.length) && decide ((s.drop i).take (g.2 - g.1).toNat = (s.drop g.1.toNat).take (g.2 - g.1).toNat)
set_option maxRecDepth 100000 in
set_option maxHeartbeats 8000000 in
theorem rholds_any (w : World) (s : ByteArray) (lines : Bool) (op : Int) (i : Nat) (hop : op = 7 ∨ op = 8) (hi : i ≤ s.size) (hs : s.size ≤ 1000000) :
    Calls Try.prog 51 #[.agg #[.string s, .bool lines], .int .i64 op, .int .i64 i] w fun e w' => e = .returned (.bool (holdsOf s.data.toList lines op i)) ∧ Below w.heap.size w w' := by
  have HB := hid ((Below.refl w.heap.size w).alloc (Nat.le_refl _) (.cells #[.string s, .bool lines] 75))
  have hsl : s.data.toList.length = s.size := by rw [Array.length_toList]; rfl
  have HSL := hid hsl
  clear hsl
  rcases hop with rfl | rfl
  · rcases Nat.eq_zero_or_pos i with rfl | h0
    · have HPL : Hid (holdsOf s.data.toList lines 7 0 = true) := by show _ = _; unfold holdsOf; simp
      go_enter Try.func51, Try.ntmps51
      go_wp2_with fail
      all_goals go_ret
      all_goals exact ⟨ret_bool (by rw [HPL.out]; try rfl), HB.out⟩
    · obtain ⟨j, rfl⟩ : ∃ j, i = j + 1 := ⟨i - 1, by omega⟩
      have hj : (j : Int) < s.size := by omega
      have hwj : IntKind.i64.wrap (j : Int) = j := by rw [IntKind.wrap_i64]; omega
      have d0 : ((j : Int) + 1 == 0) = false := by simp; omega
      have hbt : byteAt s.data.toList j = s[j] := byteAt_eq (by omega)
      rcases Bool.eq_false_or_eq_true lines with hln | hln
      · subst hln
        by_cases hb : s[j].toNat = 10
        · have HPL : Hid (holdsOf s.data.toList true 7 (j + 1) = true) := by show _ = _; unfold holdsOf; simp [hbt, ← UInt8.toNat_inj, hb]
          have d1 : ((s[j].toNat : Int) == 10) = true := by simp; omega
          go_enter Try.func51, Try.ntmps51
          go_wp2_with fail
          all_goals go_ret
          all_goals exact ⟨ret_bool (by rw [HPL.out]; try rfl), HB.out⟩
        · have HPL : Hid (holdsOf s.data.toList true 7 (j + 1) = false) := by show _ = _; unfold holdsOf; simp [hbt, ← UInt8.toNat_inj, hb]
          have d1 : ((s[j].toNat : Int) == 10) = false := by simp; omega
          go_enter Try.func51, Try.ntmps51
          go_wp2_with fail
          all_goals go_ret
          all_goals exact ⟨ret_bool (by rw [HPL.out]; try rfl), HB.out⟩
      · subst hln
        have HPL : Hid (holdsOf s.data.toList false 7 (j + 1) = false) := by show _ = _; unfold holdsOf; simp
        go_enter Try.func51, Try.ntmps51
        go_wp2_with fail
        all_goals go_ret
        all_goals exact ⟨ret_bool (by rw [HPL.out]; try rfl), HB.out⟩
  · rcases Nat.lt_or_ge i s.size with hkl | hkl
    rotate_left
    · have d0 : ((i : Int) == (s.size : Int)) = true := by simp; omega
      have HPL : Hid (holdsOf s.data.toList lines 8 i = true) := by show _ = _; unfold holdsOf; rw [HSL.out]; simp; left; omega
      go_enter Try.func51, Try.ntmps51
      go_wp2_with fail
      all_goals go_ret
      all_goals exact ⟨ret_bool (by rw [HPL.out]; try rfl), HB.out⟩
    · have hj : (i : Int) < s.size := by omega
      have d0 : ((i : Int) == (s.size : Int)) = false := by simp; omega
      have hbt : byteAt s.data.toList i = s[i] := byteAt_eq (by omega)
      rcases Bool.eq_false_or_eq_true lines with hln | hln
      · subst hln
        by_cases hb : s[i].toNat = 10
        · have HPL : Hid (holdsOf s.data.toList true 8 i = true) := by show _ = _; unfold holdsOf; simp [hbt, ← UInt8.toNat_inj, hb]
          have d1 : ((s[i].toNat : Int) == 10) = true := by simp; omega
          go_enter Try.func51, Try.ntmps51
          go_wp2_with fail
          all_goals go_ret
          all_goals exact ⟨ret_bool (by rw [HPL.out]; try rfl), HB.out⟩
        · have HPL : Hid (holdsOf s.data.toList true 8 i = false) := by show _ = _; unfold holdsOf; rw [HSL.out]; simp [hbt, ← UInt8.toNat_inj, hb]; omega
          have d1 : ((s[i].toNat : Int) == 10) = false := by simp; omega
          go_enter Try.func51, Try.ntmps51
          go_wp2_with fail
          all_goals go_ret
          all_goals exact ⟨ret_bool (by rw [HPL.out]; try rfl), HB.out⟩
      · subst hln
        have HPL : Hid (holdsOf s.data.toList false 8 i = false) := by show _ = _; unfold holdsOf; rw [HSL.out]; simp; omega
        go_enter Try.func51, Try.ntmps51
        go_wp2_with fail
        all_goals go_ret
        all_goals exact ⟨ret_bool (by rw [HPL.out]; try rfl), HB.out⟩

theorem Row.two9 {w : World} {B : Nat} {a b : Value} {T : TypeId} (h : Row w B [a, b] T) : w.cell? ⟨B, 0, none⟩ = some a ∧ w.cell? ⟨B, 1, none⟩ = some b := ⟨h.cell 0, h.cell 1⟩
set_option maxRecDepth 100000 in
set_option maxHeartbeats 16000000 in
theorem ragain_any (w : World) (s : ByteArray) (lines : Bool) (x1 x2 : Int) (i : Nat) (hx : (x1 = -1 ∧ x2 = -1) ∨ (0 ≤ x1 ∧ x1 ≤ x2 ∧ x2 ≤ s.size)) (hi : i ≤ s.size) (hs : s.size ≤ 1000000) :
    Calls Try.prog 52 #[.agg #[.string s, .bool lines], .agg #[.int .i64 x1, .int .i64 x2], .int .i64 i] w fun e w' => e = .returned (.bool (againOf s.data.toList (x1, x2) i)) ∧ Below w.heap.size w w' := by
  have HB2 := hid (((Below.refl w.heap.size w).alloc (Nat.le_refl _) (.cells #[.string s, .bool lines] 75)).alloc (by simp) (.cells #[.int .i64 x1, .int .i64 x2] 47))
  have hsl : s.data.toList.length = s.size := by rw [Array.length_toList]; rfl
  have HSL := hid hsl
  clear hsl
  have HC := hid (fun (x : World) (hx : Grow (((w.alloc (.cells #[.string s, .bool lines] 75)).alloc (.cells #[.int .i64 x1, .int .i64 x2] 47))).drew x) => (⟨(((Row.new (w := w) (cs := [.string s, .bool lines]) (T := 75) rfl).alloc _).grow hx).two9, ((Row.new (w := (w.alloc (.cells #[.string s, .bool lines] 75))) (B := w.heap.size + 1) (cs := [.int .i64 x1, .int .i64 x2]) (T := 47) (by simp)).grow hx).two9⟩ : _ ∧ _))
  rcases hx with ⟨rfl, rfl⟩ | ⟨h0, h1, h2⟩
  · have HPL : Hid (againOf s.data.toList (-1, -1) i = false) := by show _ = _; unfold againOf; simp
    go_enter Try.func52, Try.ntmps52
    go_wp2_with fail
    refine wp_region_inv 30 (Grow) (by kernel_rfl) (by kernel_rfl) (Grow.refl) (fun _ _ _ => Grow.trans) ?_
    simp only [fill, dstOf, Act.put, List.take_succ_cons, List.take_zero, List.getElem?_toArray, List.getElem?_cons_zero, List.getElem?_cons_succ, Option.bind_some, List.setIfInBounds_toArray, List.set_cons_zero, List.set_cons_succ]
    refine Plan.det 1 rfl (Grow.refl) ?_
    apply Exists.intro
    refine ⟨fun vs x hR hF K hK => ?_, ?_⟩
    · clear hF
      go_simp
      exact hK _ _ (Grow.refl _) rfl
    refine Plan.det 2 rfl (Grow.refl) ?_
    apply Exists.intro
    refine ⟨fun vs x hR hF K hK => ?_, ?_⟩
    · have f0 := hF 0 _ _ rfl rfl; have hc := HC.out x hR; clear hF
      go_simp
      exact hK _ _ (Grow.refl _) rfl
    refine Plan.det 3 rfl (Grow.refl) ?_
    apply Exists.intro
    refine ⟨fun vs x hR hF K hK => ?_, ?_⟩
    · have f1 := hF 0 _ _ rfl rfl; clear hF
      go_simp
      exact hK _ _ (Grow.refl _) rfl
    refine Plan.det 4 rfl (Grow.refl) ?_
    apply Exists.intro
    refine ⟨fun vs x hR hF K hK => ?_, ?_⟩
    · have f2 := hF 0 _ _ rfl rfl; clear hF
      go_simp
      exact hK _ _ (Grow.refl _) rfl
    refine Plan.det 5 rfl (Grow.refl) ?_
    apply Exists.intro
    refine ⟨fun vs x hR hF K hK => ?_, ?_⟩
    · have f3 := hF 0 _ _ rfl rfl; clear hF
      go_simp
      exact hK _ _ (Grow.refl _) rfl
    refine Plan.det 6 rfl (Grow.refl) ?_
    apply Exists.intro
    refine ⟨fun vs x hR hF K hK => ?_, ?_⟩
    · have f3 := hF 1 _ _ rfl rfl; clear hF
      go_simp
      exact hK _ _ (Grow.refl _) rfl
    refine Plan.det 7 rfl (Grow.refl) ?_
    apply Exists.intro
    refine ⟨fun vs x hR hF K hK => ?_, ?_⟩
    · have f3 := hF 2 _ _ rfl rfl; have f5 := hF 0 _ _ rfl rfl; have hc := HC.out x hR; clear hF
      go_simp
      exact hK _ _ (Grow.refl _) rfl
    refine Plan.det 8 rfl (Grow.refl) ?_
    apply Exists.intro
    refine ⟨fun vs x hR hF K hK => ?_, ?_⟩
    · have f3 := hF 3 _ _ rfl rfl; have f6 := hF 0 _ _ rfl rfl; clear hF
      go_simp
      exact hK _ _ (Grow.refl _) rfl
    refine Plan.det 9 rfl (Grow.refl) ?_
    apply Exists.intro
    refine ⟨fun vs x hR hF K hK => ?_, ?_⟩
    · have f3 := hF 4 _ _ rfl rfl; clear hF
      go_simp
      exact hK _ _ (Grow.refl _) rfl
    refine Plan.det 10 rfl (Grow.refl) ?_
    apply Exists.intro
    refine ⟨fun vs x hR hF K hK => ?_, ?_⟩
    · have f3 := hF 5 _ _ rfl rfl; have f7 := hF 1 _ _ rfl rfl; have f8 := hF 0 _ _ rfl rfl; clear hF
      go_simp
      exact hK _ _ (Grow.refl _) rfl
    refine Plan.det 11 rfl (Grow.refl) ?_
    apply Exists.intro
    refine ⟨fun vs x hR hF K hK => ?_, ?_⟩
    · have f3 := hF 6 _ _ rfl rfl; have f4 := hF 5 _ _ rfl rfl; have f9 := hF 0 _ _ rfl rfl; clear hF
      go_simp
      exact hK _ _ (Grow.refl _) rfl
    refine Plan.det 12 rfl (Grow.refl) ?_
    apply Exists.intro
    refine ⟨fun vs x hR hF K hK => ?_, ?_⟩
    · have f3 := hF 7 _ _ rfl rfl; have f10 := hF 0 _ _ rfl rfl; clear hF
      go_simp
      exact hK _ _ (Grow.refl _) rfl
    refine Plan.det 13 rfl (Grow.refl) ?_
    apply Exists.intro
    refine ⟨fun vs x hR hF K hK => ?_, ?_⟩
    · have f3 := hF 8 _ _ rfl rfl; have f11 := hF 0 _ _ rfl rfl; clear hF
      go_simp
      exact hK _ _ (Grow.refl _) rfl
    refine Plan.det 14 rfl (Grow.refl) ?_
    apply Exists.intro
    refine ⟨fun vs x hR hF K hK => ?_, ?_⟩
    · have f12 := hF 0 _ _ rfl rfl; clear hF
      go_simp
      exact hK _ _ (Grow.refl _) rfl
    refine Plan.det 15 rfl (Grow.refl) ?_
    apply Exists.intro
    refine ⟨fun vs x hR hF K hK => ?_, ?_⟩
    · have f12 := hF 1 _ _ rfl rfl; have f13 := hF 0 _ _ rfl rfl; have hc := HC.out x hR; clear hF
      go_simp
      exact hK _ _ (Grow.refl _) rfl
    refine Plan.det 16 rfl (Grow.refl) ?_
    apply Exists.intro
    refine ⟨fun vs x hR hF K hK => ?_, ?_⟩
    · have f12 := hF 2 _ _ rfl rfl; clear hF
      go_simp
      exact hK _ _ (Grow.refl _) rfl
    refine Plan.det 17 rfl (Grow.refl) ?_
    apply Exists.intro
    refine ⟨fun vs x hR hF K hK => ?_, ?_⟩
    · have f12 := hF 3 _ _ rfl rfl; clear hF
      go_simp
      exact hK _ _ (Grow.refl _) rfl
    refine Plan.det 18 rfl (Grow.refl) ?_
    apply Exists.intro
    refine ⟨fun vs x hR hF K hK => ?_, ?_⟩
    · have f12 := hF 4 _ _ rfl rfl; clear hF
      go_simp
      exact hK _ _ (Grow.refl _) rfl
    refine Plan.det 19 rfl (Grow.refl) ?_
    apply Exists.intro
    refine ⟨fun vs x hR hF K hK => ?_, ?_⟩
    · have f12 := hF 5 _ _ rfl rfl; have f16 := hF 1 _ _ rfl rfl; have f17 := hF 0 _ _ rfl rfl; clear hF
      go_simp
      exact hK _ _ (Grow.refl _) rfl
    refine Plan.det 20 rfl (Grow.refl) ?_
    apply Exists.intro
    refine ⟨fun vs x hR hF K hK => ?_, ?_⟩
    · have f12 := hF 6 _ _ rfl rfl; have f14 := hF 4 _ _ rfl rfl; have f15 := hF 3 _ _ rfl rfl; have f18 := hF 0 _ _ rfl rfl; clear hF
      go_simp
      exact hK _ _ (Grow.refl _) rfl
    refine Plan.det 21 rfl (Grow.refl) ?_
    apply Exists.intro
    refine ⟨fun vs x hR hF K hK => ?_, ?_⟩
    · have f12 := hF 7 _ _ rfl rfl; clear hF
      go_simp
      exact hK _ _ (Grow.refl _) rfl
    refine Plan.det 22 rfl (Grow.refl) ?_
    apply Exists.intro
    refine ⟨fun vs x hR hF K hK => ?_, ?_⟩
    · have f12 := hF 8 _ _ rfl rfl; have f20 := hF 0 _ _ rfl rfl; have hc := HC.out x hR; clear hF
      go_simp
      exact hK _ _ (Grow.refl _) rfl
    refine Plan.det 23 rfl (Grow.refl) ?_
    apply Exists.intro
    refine ⟨fun vs x hR hF K hK => ?_, ?_⟩
    · have f12 := hF 9 _ _ rfl rfl; clear hF
      go_simp
      exact hK _ _ (Grow.refl _) rfl
    refine Plan.det 24 rfl (Grow.refl) ?_
    apply Exists.intro
    refine ⟨fun vs x hR hF K hK => ?_, ?_⟩
    · have f12 := hF 10 _ _ rfl rfl; have f22 := hF 0 _ _ rfl rfl; have hc := HC.out x hR; clear hF
      go_simp
      exact hK _ _ (Grow.refl _) rfl
    refine Plan.det 25 rfl (Grow.refl) ?_
    apply Exists.intro
    refine ⟨fun vs x hR hF K hK => ?_, ?_⟩
    · have f12 := hF 11 _ _ rfl rfl; clear hF
      go_simp
      exact hK _ _ (Grow.refl _) rfl
    refine Plan.det 26 rfl (Grow.refl) ?_
    apply Exists.intro
    refine ⟨fun vs x hR hF K hK => ?_, ?_⟩
    · have f12 := hF 12 _ _ rfl rfl; have f24 := hF 0 _ _ rfl rfl; have hc := HC.out x hR; clear hF
      go_simp
      exact hK _ _ (Grow.refl _) rfl
    refine Plan.det 27 rfl (Grow.refl) ?_
    apply Exists.intro
    refine ⟨fun vs x hR hF K hK => ?_, ?_⟩
    · have f12 := hF 13 _ _ rfl rfl; have f21 := hF 4 _ _ rfl rfl; have f23 := hF 2 _ _ rfl rfl; have f25 := hF 0 _ _ rfl rfl; clear hF
      go_simp
      exact hK _ _ (Grow.refl _) rfl
    refine Plan.det 28 rfl (Grow.refl) ?_
    apply Exists.intro
    refine ⟨fun vs x hR hF K hK => ?_, ?_⟩
    · have f12 := hF 14 _ _ rfl rfl; have f19 := hF 7 _ _ rfl rfl; have f26 := hF 0 _ _ rfl rfl; clear hF
      go_simp
      exact hK _ _ (Grow.refl _) rfl
    refine Plan.det 29 rfl (Grow.refl) ?_
    apply Exists.intro
    refine ⟨fun vs x hR hF K hK => ?_, ?_⟩
    · have f12 := hF 15 _ _ rfl rfl; have f27 := hF 0 _ _ rfl rfl; clear hF
      go_simp
      exact hK _ _ (Grow.refl _) rfl
    refine Plan.det 30 rfl (Grow.refl) ?_
    apply Exists.intro
    refine ⟨fun vs x hR hF K hK => ?_, ?_⟩
    · have f0 := hF 28 _ _ rfl rfl; have f1 := hF 27 _ _ rfl rfl; have f2 := hF 26 _ _ rfl rfl; have f3 := hF 25 _ _ rfl rfl; have f4 := hF 24 _ _ rfl rfl; have f5 := hF 23 _ _ rfl rfl; have f6 := hF 22 _ _ rfl rfl; have f7 := hF 21 _ _ rfl rfl; have f8 := hF 20 _ _ rfl rfl; have f9 := hF 19 _ _ rfl rfl; have f10 := hF 18 _ _ rfl rfl; have f11 := hF 17 _ _ rfl rfl; have f12 := hF 16 _ _ rfl rfl; have f13 := hF 15 _ _ rfl rfl; have f14 := hF 14 _ _ rfl rfl; have f15 := hF 13 _ _ rfl rfl; have f16 := hF 12 _ _ rfl rfl; have f17 := hF 11 _ _ rfl rfl; have f18 := hF 10 _ _ rfl rfl; have f19 := hF 9 _ _ rfl rfl; have f20 := hF 8 _ _ rfl rfl; have f21 := hF 7 _ _ rfl rfl; have f22 := hF 6 _ _ rfl rfl; have f23 := hF 5 _ _ rfl rfl; have f24 := hF 4 _ _ rfl rfl; have f25 := hF 3 _ _ rfl rfl; have f26 := hF 2 _ _ rfl rfl; have f27 := hF 1 _ _ rfl rfl; have f28 := hF 0 _ _ rfl rfl; clear hF
      go_simp
      exact hK _ _ (Grow.refl _) rfl
    refine Plan.nil (fun vs x hR hF => ?_)
    have f0 := hF 29 _ _ rfl; have f1 := hF 28 _ _ rfl; have f2 := hF 27 _ _ rfl; have f3 := hF 26 _ _ rfl; have f4 := hF 25 _ _ rfl; have f5 := hF 24 _ _ rfl; have f6 := hF 23 _ _ rfl; have f7 := hF 22 _ _ rfl; have f8 := hF 21 _ _ rfl; have f9 := hF 20 _ _ rfl; have f10 := hF 19 _ _ rfl; have f11 := hF 18 _ _ rfl; have f12 := hF 17 _ _ rfl; have f13 := hF 16 _ _ rfl; have f14 := hF 15 _ _ rfl; have f15 := hF 14 _ _ rfl; have f16 := hF 13 _ _ rfl; have f17 := hF 12 _ _ rfl; have f18 := hF 11 _ _ rfl; have f19 := hF 10 _ _ rfl; have f20 := hF 9 _ _ rfl; have f21 := hF 8 _ _ rfl; have f22 := hF 7 _ _ rfl; have f23 := hF 6 _ _ rfl; have f24 := hF 5 _ _ rfl; have f25 := hF 4 _ _ rfl; have f26 := hF 3 _ _ rfl; have f27 := hF 2 _ _ rfl; have f28 := hF 1 _ _ rfl; have f29 := hF 0 _ _ rfl
    clear hF
    simp only [f0, f1, f2, f3, f4, f5, f6, f7, f8, f9, f10, f11, f12, f13, f14, f15, f16, f17, f18, f19, f20, f21, f22, f23, f24, f25, f26, f27, f28, f29]
    clear f0 f1 f2 f3 f4 f5 f6 f7 f8 f9 f10 f11 f12 f13 f14 f15 f16 f17 f18 f19 f20 f21 f22 f23 f24 f25 f26 f27 f28 f29
    simp only [List.drop_succ_cons, List.drop_zero]
    have hbx : Below w.heap.size w x := below_grow HB2.out (by simp; try omega) hR
    have HBX := hid hbx
    clear HC hR hbx
    go_wp2_with fail
    go_ret
    exact ⟨ret_bool (by rw [HPL.out]; try rfl), HBX.out⟩
  · obtain ⟨a, rfl⟩ : ∃ a : Nat, x1 = a := ⟨x1.toNat, by omega⟩
    obtain ⟨b, rfl⟩ : ∃ b : Nat, x2 = b := ⟨x2.toNat, by omega⟩
    have hw1 : IntKind.i64.wrap ((b : Int) - (a : Int)) = (b : Int) - (a : Int) := by rw [IntKind.wrap_i64]; omega
    have hw2 : IntKind.i64.wrap ((s.size : Int) - (i : Int)) = (s.size : Int) - (i : Int) := by rw [IntKind.wrap_i64]; omega
    have hm : ((b : Int) - (a : Int)).toNat = b - a := by omega
    by_cases hle : (b : Int) - (a : Int) ≤ (s.size : Int) - (i : Int)
    · obtain ⟨k, hk⟩ : ∃ k : Nat, k = i + (b - a) := ⟨_, rfl⟩
      have hki : (i : Int) + ((b : Int) - (a : Int)) = (k : Int) := by omega
      have hwk : IntKind.i64.wrap (k : Int) = k := by rw [IntKind.wrap_i64]; omega
      have hpl : againOf s.data.toList ((a : Int), (b : Int)) i = decide ((s.extract i k).toList = (s.extract a b).toList) := by
        unfold againOf
        rw [ext_list9, ext_list9, HSL.out]
        dsimp only
        rw [hm, decide_eq_true (show (0 : Int) ≤ (a : Int) by omega), decide_eq_true (show i + (b - a) ≤ s.size by omega), show k - i = b - a by omega]
        simp
      have d0 : decide ((b : Int) - (a : Int) ≤ (s.size : Int) - (i : Int)) = true := by simp; omega
      have hik : (i : Int) ≤ (k : Int) := by omega
      have hks : (k : Int) ≤ s.size := by omega
      have HK := hid hk
      clear hk hm
      by_cases hse : (s.extract i k).toList = (s.extract a b).toList
      · have HPL : Hid (againOf s.data.toList ((a : Int), (b : Int)) i = true) := by show _ = _; rw [hpl]; simp [hse]
        have hse' : ((s.extract i k).toList = (s.extract a b).toList) = True := by simp [hse]
        have hsb' : ((s.extract i k).toList == (s.extract a b).toList) = true := by simp [hse]
        clear hpl hse
        go_enter Try.func52, Try.ntmps52
        go_wp2_with fail
        refine wp_region_inv 30 (Grow) (by kernel_rfl) (by kernel_rfl) (Grow.refl) (fun _ _ _ => Grow.trans) ?_
        simp only [fill, dstOf, Act.put, List.take_succ_cons, List.take_zero, List.getElem?_toArray, List.getElem?_cons_zero, List.getElem?_cons_succ, Option.bind_some, List.setIfInBounds_toArray, List.set_cons_zero, List.set_cons_succ]
        refine Plan.det 1 rfl (Grow.refl) ?_
        apply Exists.intro
        refine ⟨fun vs x hR hF K hK => ?_, ?_⟩
        · clear hF
          go_simp
          exact hK _ _ (Grow.refl _) rfl
        refine Plan.det 2 rfl (Grow.refl) ?_
        apply Exists.intro
        refine ⟨fun vs x hR hF K hK => ?_, ?_⟩
        · have f0 := hF 0 _ _ rfl rfl; have hc := HC.out x hR; clear hF
          go_simp
          exact hK _ _ (Grow.refl _) rfl
        refine Plan.det 3 rfl (Grow.refl) ?_
        apply Exists.intro
        refine ⟨fun vs x hR hF K hK => ?_, ?_⟩
        · have f1 := hF 0 _ _ rfl rfl; clear hF
          go_simp
          exact hK _ _ (Grow.refl _) rfl
        refine Plan.det 4 rfl (Grow.refl) ?_
        apply Exists.intro
        refine ⟨fun vs x hR hF K hK => ?_, ?_⟩
        · have f2 := hF 0 _ _ rfl rfl; clear hF
          go_simp
          exact hK _ _ (Grow.refl _) rfl
        refine Plan.det 5 rfl (Grow.refl) ?_
        apply Exists.intro
        refine ⟨fun vs x hR hF K hK => ?_, ?_⟩
        · have f3 := hF 0 _ _ rfl rfl; clear hF
          go_simp
          exact hK _ _ (Grow.refl _) rfl
        refine Plan.det 6 rfl (Grow.refl) ?_
        apply Exists.intro
        refine ⟨fun vs x hR hF K hK => ?_, ?_⟩
        · have f3 := hF 1 _ _ rfl rfl; clear hF
          go_simp
          exact hK _ _ (Grow.refl _) rfl
        refine Plan.det 7 rfl (Grow.refl) ?_
        apply Exists.intro
        refine ⟨fun vs x hR hF K hK => ?_, ?_⟩
        · have f3 := hF 2 _ _ rfl rfl; have f5 := hF 0 _ _ rfl rfl; have hc := HC.out x hR; clear hF
          go_simp
          exact hK _ _ (Grow.refl _) rfl
        refine Plan.det 8 rfl (Grow.refl) ?_
        apply Exists.intro
        refine ⟨fun vs x hR hF K hK => ?_, ?_⟩
        · have f3 := hF 3 _ _ rfl rfl; have f6 := hF 0 _ _ rfl rfl; clear hF
          go_simp
          exact hK _ _ (Grow.refl _) rfl
        refine Plan.det 9 rfl (Grow.refl) ?_
        apply Exists.intro
        refine ⟨fun vs x hR hF K hK => ?_, ?_⟩
        · have f3 := hF 4 _ _ rfl rfl; clear hF
          go_simp
          exact hK _ _ (Grow.refl _) rfl
        refine Plan.det 10 rfl (Grow.refl) ?_
        apply Exists.intro
        refine ⟨fun vs x hR hF K hK => ?_, ?_⟩
        · have f3 := hF 5 _ _ rfl rfl; have f7 := hF 1 _ _ rfl rfl; have f8 := hF 0 _ _ rfl rfl; clear hF
          go_simp
          exact hK _ _ (Grow.refl _) rfl
        refine Plan.det 11 rfl (Grow.refl) ?_
        apply Exists.intro
        refine ⟨fun vs x hR hF K hK => ?_, ?_⟩
        · have f3 := hF 6 _ _ rfl rfl; have f4 := hF 5 _ _ rfl rfl; have f9 := hF 0 _ _ rfl rfl; clear hF
          go_simp
          exact hK _ _ (Grow.refl _) rfl
        refine Plan.det 12 rfl (Grow.refl) ?_
        apply Exists.intro
        refine ⟨fun vs x hR hF K hK => ?_, ?_⟩
        · have f3 := hF 7 _ _ rfl rfl; have f10 := hF 0 _ _ rfl rfl; clear hF
          go_simp
          exact hK _ _ (Grow.refl _) rfl
        refine Plan.det 13 rfl (Grow.refl) ?_
        apply Exists.intro
        refine ⟨fun vs x hR hF K hK => ?_, ?_⟩
        · have f3 := hF 8 _ _ rfl rfl; have f11 := hF 0 _ _ rfl rfl; clear hF
          go_simp
          exact hK _ _ (Grow.refl _) rfl
        refine Plan.det 14 rfl (Grow.refl) ?_
        apply Exists.intro
        refine ⟨fun vs x hR hF K hK => ?_, ?_⟩
        · have f12 := hF 0 _ _ rfl rfl; clear hF
          go_simp
          exact hK _ _ (Grow.refl _) rfl
        refine Plan.det 15 rfl (Grow.refl) ?_
        apply Exists.intro
        refine ⟨fun vs x hR hF K hK => ?_, ?_⟩
        · have f12 := hF 1 _ _ rfl rfl; have f13 := hF 0 _ _ rfl rfl; have hc := HC.out x hR; clear hF
          go_simp
          exact hK _ _ (Grow.refl _) rfl
        refine Plan.det 16 rfl (Grow.refl) ?_
        apply Exists.intro
        refine ⟨fun vs x hR hF K hK => ?_, ?_⟩
        · have f12 := hF 2 _ _ rfl rfl; clear hF
          go_simp
          exact hK _ _ (Grow.refl _) rfl
        refine Plan.det 17 rfl (Grow.refl) ?_
        apply Exists.intro
        refine ⟨fun vs x hR hF K hK => ?_, ?_⟩
        · have f12 := hF 3 _ _ rfl rfl; clear hF
          go_simp
          exact hK _ _ (Grow.refl _) rfl
        refine Plan.det 18 rfl (Grow.refl) ?_
        apply Exists.intro
        refine ⟨fun vs x hR hF K hK => ?_, ?_⟩
        · have f12 := hF 4 _ _ rfl rfl; clear hF
          go_simp
          exact hK _ _ (Grow.refl _) rfl
        refine Plan.det 19 rfl (Grow.refl) ?_
        apply Exists.intro
        refine ⟨fun vs x hR hF K hK => ?_, ?_⟩
        · have f12 := hF 5 _ _ rfl rfl; have f16 := hF 1 _ _ rfl rfl; have f17 := hF 0 _ _ rfl rfl; clear hF
          go_simp
          exact hK _ _ (Grow.refl _) rfl
        refine Plan.det 20 rfl (Grow.refl) ?_
        apply Exists.intro
        refine ⟨fun vs x hR hF K hK => ?_, ?_⟩
        · have f12 := hF 6 _ _ rfl rfl; have f14 := hF 4 _ _ rfl rfl; have f15 := hF 3 _ _ rfl rfl; have f18 := hF 0 _ _ rfl rfl; clear hF
          go_simp
          exact hK _ _ (Grow.refl _) rfl
        refine Plan.det 21 rfl (Grow.refl) ?_
        apply Exists.intro
        refine ⟨fun vs x hR hF K hK => ?_, ?_⟩
        · have f12 := hF 7 _ _ rfl rfl; clear hF
          go_simp
          exact hK _ _ (Grow.refl _) rfl
        refine Plan.det 22 rfl (Grow.refl) ?_
        apply Exists.intro
        refine ⟨fun vs x hR hF K hK => ?_, ?_⟩
        · have f12 := hF 8 _ _ rfl rfl; have f20 := hF 0 _ _ rfl rfl; have hc := HC.out x hR; clear hF
          go_simp
          exact hK _ _ (Grow.refl _) rfl
        refine Plan.det 23 rfl (Grow.refl) ?_
        apply Exists.intro
        refine ⟨fun vs x hR hF K hK => ?_, ?_⟩
        · have f12 := hF 9 _ _ rfl rfl; clear hF
          go_simp
          exact hK _ _ (Grow.refl _) rfl
        refine Plan.det 24 rfl (Grow.refl) ?_
        apply Exists.intro
        refine ⟨fun vs x hR hF K hK => ?_, ?_⟩
        · have f12 := hF 10 _ _ rfl rfl; have f22 := hF 0 _ _ rfl rfl; have hc := HC.out x hR; clear hF
          go_simp
          exact hK _ _ (Grow.refl _) rfl
        refine Plan.det 25 rfl (Grow.refl) ?_
        apply Exists.intro
        refine ⟨fun vs x hR hF K hK => ?_, ?_⟩
        · have f12 := hF 11 _ _ rfl rfl; clear hF
          go_simp
          exact hK _ _ (Grow.refl _) rfl
        refine Plan.det 26 rfl (Grow.refl) ?_
        apply Exists.intro
        refine ⟨fun vs x hR hF K hK => ?_, ?_⟩
        · have f12 := hF 12 _ _ rfl rfl; have f24 := hF 0 _ _ rfl rfl; have hc := HC.out x hR; clear hF
          go_simp
          exact hK _ _ (Grow.refl _) rfl
        refine Plan.det 27 rfl (Grow.refl) ?_
        apply Exists.intro
        refine ⟨fun vs x hR hF K hK => ?_, ?_⟩
        · have f12 := hF 13 _ _ rfl rfl; have f21 := hF 4 _ _ rfl rfl; have f23 := hF 2 _ _ rfl rfl; have f25 := hF 0 _ _ rfl rfl; clear hF
          go_simp
          exact hK _ _ (Grow.refl _) rfl
        refine Plan.det 28 rfl (Grow.refl) ?_
        apply Exists.intro
        refine ⟨fun vs x hR hF K hK => ?_, ?_⟩
        · have f12 := hF 14 _ _ rfl rfl; have f19 := hF 7 _ _ rfl rfl; have f26 := hF 0 _ _ rfl rfl; clear hF
          go_simp
          exact hK _ _ (Grow.refl _) rfl
        refine Plan.det 29 rfl (Grow.refl) ?_
        apply Exists.intro
        refine ⟨fun vs x hR hF K hK => ?_, ?_⟩
        · have f12 := hF 15 _ _ rfl rfl; have f27 := hF 0 _ _ rfl rfl; clear hF
          go_simp
          exact hK _ _ (Grow.refl _) rfl
        refine Plan.det 30 rfl (Grow.refl) ?_
        apply Exists.intro
        refine ⟨fun vs x hR hF K hK => ?_, ?_⟩
        · have f0 := hF 28 _ _ rfl rfl; have f1 := hF 27 _ _ rfl rfl; have f2 := hF 26 _ _ rfl rfl; have f3 := hF 25 _ _ rfl rfl; have f4 := hF 24 _ _ rfl rfl; have f5 := hF 23 _ _ rfl rfl; have f6 := hF 22 _ _ rfl rfl; have f7 := hF 21 _ _ rfl rfl; have f8 := hF 20 _ _ rfl rfl; have f9 := hF 19 _ _ rfl rfl; have f10 := hF 18 _ _ rfl rfl; have f11 := hF 17 _ _ rfl rfl; have f12 := hF 16 _ _ rfl rfl; have f13 := hF 15 _ _ rfl rfl; have f14 := hF 14 _ _ rfl rfl; have f15 := hF 13 _ _ rfl rfl; have f16 := hF 12 _ _ rfl rfl; have f17 := hF 11 _ _ rfl rfl; have f18 := hF 10 _ _ rfl rfl; have f19 := hF 9 _ _ rfl rfl; have f20 := hF 8 _ _ rfl rfl; have f21 := hF 7 _ _ rfl rfl; have f22 := hF 6 _ _ rfl rfl; have f23 := hF 5 _ _ rfl rfl; have f24 := hF 4 _ _ rfl rfl; have f25 := hF 3 _ _ rfl rfl; have f26 := hF 2 _ _ rfl rfl; have f27 := hF 1 _ _ rfl rfl; have f28 := hF 0 _ _ rfl rfl; clear hF
          go_simp
          exact hK _ _ (Grow.refl _) rfl
        refine Plan.nil (fun vs x hR hF => ?_)
        have f0 := hF 29 _ _ rfl; have f1 := hF 28 _ _ rfl; have f2 := hF 27 _ _ rfl; have f3 := hF 26 _ _ rfl; have f4 := hF 25 _ _ rfl; have f5 := hF 24 _ _ rfl; have f6 := hF 23 _ _ rfl; have f7 := hF 22 _ _ rfl; have f8 := hF 21 _ _ rfl; have f9 := hF 20 _ _ rfl; have f10 := hF 19 _ _ rfl; have f11 := hF 18 _ _ rfl; have f12 := hF 17 _ _ rfl; have f13 := hF 16 _ _ rfl; have f14 := hF 15 _ _ rfl; have f15 := hF 14 _ _ rfl; have f16 := hF 13 _ _ rfl; have f17 := hF 12 _ _ rfl; have f18 := hF 11 _ _ rfl; have f19 := hF 10 _ _ rfl; have f20 := hF 9 _ _ rfl; have f21 := hF 8 _ _ rfl; have f22 := hF 7 _ _ rfl; have f23 := hF 6 _ _ rfl; have f24 := hF 5 _ _ rfl; have f25 := hF 4 _ _ rfl; have f26 := hF 3 _ _ rfl; have f27 := hF 2 _ _ rfl; have f28 := hF 1 _ _ rfl; have f29 := hF 0 _ _ rfl
        clear hF
        simp only [f0, f1, f2, f3, f4, f5, f6, f7, f8, f9, f10, f11, f12, f13, f14, f15, f16, f17, f18, f19, f20, f21, f22, f23, f24, f25, f26, f27, f28, f29]
        clear f0 f1 f2 f3 f4 f5 f6 f7 f8 f9 f10 f11 f12 f13 f14 f15 f16 f17 f18 f19 f20 f21 f22 f23 f24 f25 f26 f27 f28 f29
        simp only [List.drop_succ_cons, List.drop_zero]
        have hbx : Below w.heap.size w x := below_grow HB2.out (by simp; try omega) hR
        have HBX := hid hbx
        clear HC hR hbx
        go_wp2_with fail
        go_ret
        exact ⟨ret_bool (by rw [HPL.out]; try rfl), HBX.out⟩
      · have HPL : Hid (againOf s.data.toList ((a : Int), (b : Int)) i = false) := by show _ = _; rw [hpl]; simp [hse]
        have hsb' : ((s.extract i k).toList == (s.extract a b).toList) = false := by simp [hse]
        clear hpl
        go_enter Try.func52, Try.ntmps52
        go_wp2_with fail
        refine wp_region_inv 30 (Grow) (by kernel_rfl) (by kernel_rfl) (Grow.refl) (fun _ _ _ => Grow.trans) ?_
        simp only [fill, dstOf, Act.put, List.take_succ_cons, List.take_zero, List.getElem?_toArray, List.getElem?_cons_zero, List.getElem?_cons_succ, Option.bind_some, List.setIfInBounds_toArray, List.set_cons_zero, List.set_cons_succ]
        refine Plan.det 1 rfl (Grow.refl) ?_
        apply Exists.intro
        refine ⟨fun vs x hR hF K hK => ?_, ?_⟩
        · clear hF
          go_simp
          exact hK _ _ (Grow.refl _) rfl
        refine Plan.det 2 rfl (Grow.refl) ?_
        apply Exists.intro
        refine ⟨fun vs x hR hF K hK => ?_, ?_⟩
        · have f0 := hF 0 _ _ rfl rfl; have hc := HC.out x hR; clear hF
          go_simp
          exact hK _ _ (Grow.refl _) rfl
        refine Plan.det 3 rfl (Grow.refl) ?_
        apply Exists.intro
        refine ⟨fun vs x hR hF K hK => ?_, ?_⟩
        · have f1 := hF 0 _ _ rfl rfl; clear hF
          go_simp
          exact hK _ _ (Grow.refl _) rfl
        refine Plan.det 4 rfl (Grow.refl) ?_
        apply Exists.intro
        refine ⟨fun vs x hR hF K hK => ?_, ?_⟩
        · have f2 := hF 0 _ _ rfl rfl; clear hF
          go_simp
          exact hK _ _ (Grow.refl _) rfl
        refine Plan.det 5 rfl (Grow.refl) ?_
        apply Exists.intro
        refine ⟨fun vs x hR hF K hK => ?_, ?_⟩
        · have f3 := hF 0 _ _ rfl rfl; clear hF
          go_simp
          exact hK _ _ (Grow.refl _) rfl
        refine Plan.det 6 rfl (Grow.refl) ?_
        apply Exists.intro
        refine ⟨fun vs x hR hF K hK => ?_, ?_⟩
        · have f3 := hF 1 _ _ rfl rfl; clear hF
          go_simp
          exact hK _ _ (Grow.refl _) rfl
        refine Plan.det 7 rfl (Grow.refl) ?_
        apply Exists.intro
        refine ⟨fun vs x hR hF K hK => ?_, ?_⟩
        · have f3 := hF 2 _ _ rfl rfl; have f5 := hF 0 _ _ rfl rfl; have hc := HC.out x hR; clear hF
          go_simp
          exact hK _ _ (Grow.refl _) rfl
        refine Plan.det 8 rfl (Grow.refl) ?_
        apply Exists.intro
        refine ⟨fun vs x hR hF K hK => ?_, ?_⟩
        · have f3 := hF 3 _ _ rfl rfl; have f6 := hF 0 _ _ rfl rfl; clear hF
          go_simp
          exact hK _ _ (Grow.refl _) rfl
        refine Plan.det 9 rfl (Grow.refl) ?_
        apply Exists.intro
        refine ⟨fun vs x hR hF K hK => ?_, ?_⟩
        · have f3 := hF 4 _ _ rfl rfl; clear hF
          go_simp
          exact hK _ _ (Grow.refl _) rfl
        refine Plan.det 10 rfl (Grow.refl) ?_
        apply Exists.intro
        refine ⟨fun vs x hR hF K hK => ?_, ?_⟩
        · have f3 := hF 5 _ _ rfl rfl; have f7 := hF 1 _ _ rfl rfl; have f8 := hF 0 _ _ rfl rfl; clear hF
          go_simp
          exact hK _ _ (Grow.refl _) rfl
        refine Plan.det 11 rfl (Grow.refl) ?_
        apply Exists.intro
        refine ⟨fun vs x hR hF K hK => ?_, ?_⟩
        · have f3 := hF 6 _ _ rfl rfl; have f4 := hF 5 _ _ rfl rfl; have f9 := hF 0 _ _ rfl rfl; clear hF
          go_simp
          exact hK _ _ (Grow.refl _) rfl
        refine Plan.det 12 rfl (Grow.refl) ?_
        apply Exists.intro
        refine ⟨fun vs x hR hF K hK => ?_, ?_⟩
        · have f3 := hF 7 _ _ rfl rfl; have f10 := hF 0 _ _ rfl rfl; clear hF
          go_simp
          exact hK _ _ (Grow.refl _) rfl
        refine Plan.det 13 rfl (Grow.refl) ?_
        apply Exists.intro
        refine ⟨fun vs x hR hF K hK => ?_, ?_⟩
        · have f3 := hF 8 _ _ rfl rfl; have f11 := hF 0 _ _ rfl rfl; clear hF
          go_simp
          exact hK _ _ (Grow.refl _) rfl
        refine Plan.det 14 rfl (Grow.refl) ?_
        apply Exists.intro
        refine ⟨fun vs x hR hF K hK => ?_, ?_⟩
        · have f12 := hF 0 _ _ rfl rfl; clear hF
          go_simp
          exact hK _ _ (Grow.refl _) rfl
        refine Plan.det 15 rfl (Grow.refl) ?_
        apply Exists.intro
        refine ⟨fun vs x hR hF K hK => ?_, ?_⟩
        · have f12 := hF 1 _ _ rfl rfl; have f13 := hF 0 _ _ rfl rfl; have hc := HC.out x hR; clear hF
          go_simp
          exact hK _ _ (Grow.refl _) rfl
        refine Plan.det 16 rfl (Grow.refl) ?_
        apply Exists.intro
        refine ⟨fun vs x hR hF K hK => ?_, ?_⟩
        · have f12 := hF 2 _ _ rfl rfl; clear hF
          go_simp
          exact hK _ _ (Grow.refl _) rfl
        refine Plan.det 17 rfl (Grow.refl) ?_
        apply Exists.intro
        refine ⟨fun vs x hR hF K hK => ?_, ?_⟩
        · have f12 := hF 3 _ _ rfl rfl; clear hF
          go_simp
          exact hK _ _ (Grow.refl _) rfl
        refine Plan.det 18 rfl (Grow.refl) ?_
        apply Exists.intro
        refine ⟨fun vs x hR hF K hK => ?_, ?_⟩
        · have f12 := hF 4 _ _ rfl rfl; clear hF
          go_simp
          exact hK _ _ (Grow.refl _) rfl
        refine Plan.det 19 rfl (Grow.refl) ?_
        apply Exists.intro
        refine ⟨fun vs x hR hF K hK => ?_, ?_⟩
        · have f12 := hF 5 _ _ rfl rfl; have f16 := hF 1 _ _ rfl rfl; have f17 := hF 0 _ _ rfl rfl; clear hF
          go_simp
          exact hK _ _ (Grow.refl _) rfl
        refine Plan.det 20 rfl (Grow.refl) ?_
        apply Exists.intro
        refine ⟨fun vs x hR hF K hK => ?_, ?_⟩
        · have f12 := hF 6 _ _ rfl rfl; have f14 := hF 4 _ _ rfl rfl; have f15 := hF 3 _ _ rfl rfl; have f18 := hF 0 _ _ rfl rfl; clear hF
          go_simp
          exact hK _ _ (Grow.refl _) rfl
        refine Plan.det 21 rfl (Grow.refl) ?_
        apply Exists.intro
        refine ⟨fun vs x hR hF K hK => ?_, ?_⟩
        · have f12 := hF 7 _ _ rfl rfl; clear hF
          go_simp
          exact hK _ _ (Grow.refl _) rfl
        refine Plan.det 22 rfl (Grow.refl) ?_
        apply Exists.intro
        refine ⟨fun vs x hR hF K hK => ?_, ?_⟩
        · have f12 := hF 8 _ _ rfl rfl; have f20 := hF 0 _ _ rfl rfl; have hc := HC.out x hR; clear hF
          go_simp
          exact hK _ _ (Grow.refl _) rfl
        refine Plan.det 23 rfl (Grow.refl) ?_
        apply Exists.intro
        refine ⟨fun vs x hR hF K hK => ?_, ?_⟩
        · have f12 := hF 9 _ _ rfl rfl; clear hF
          go_simp
          exact hK _ _ (Grow.refl _) rfl
        refine Plan.det 24 rfl (Grow.refl) ?_
        apply Exists.intro
        refine ⟨fun vs x hR hF K hK => ?_, ?_⟩
        · have f12 := hF 10 _ _ rfl rfl; have f22 := hF 0 _ _ rfl rfl; have hc := HC.out x hR; clear hF
          go_simp
          exact hK _ _ (Grow.refl _) rfl
        refine Plan.det 25 rfl (Grow.refl) ?_
        apply Exists.intro
        refine ⟨fun vs x hR hF K hK => ?_, ?_⟩
        · have f12 := hF 11 _ _ rfl rfl; clear hF
          go_simp
          exact hK _ _ (Grow.refl _) rfl
        refine Plan.det 26 rfl (Grow.refl) ?_
        apply Exists.intro
        refine ⟨fun vs x hR hF K hK => ?_, ?_⟩
        · have f12 := hF 12 _ _ rfl rfl; have f24 := hF 0 _ _ rfl rfl; have hc := HC.out x hR; clear hF
          go_simp
          exact hK _ _ (Grow.refl _) rfl
        refine Plan.det 27 rfl (Grow.refl) ?_
        apply Exists.intro
        refine ⟨fun vs x hR hF K hK => ?_, ?_⟩
        · have f12 := hF 13 _ _ rfl rfl; have f21 := hF 4 _ _ rfl rfl; have f23 := hF 2 _ _ rfl rfl; have f25 := hF 0 _ _ rfl rfl; clear hF
          go_simp
          exact hK _ _ (Grow.refl _) rfl
        refine Plan.det 28 rfl (Grow.refl) ?_
        apply Exists.intro
        refine ⟨fun vs x hR hF K hK => ?_, ?_⟩
        · have f12 := hF 14 _ _ rfl rfl; have f19 := hF 7 _ _ rfl rfl; have f26 := hF 0 _ _ rfl rfl; clear hF
          go_simp
          exact hK _ _ (Grow.refl _) rfl
        refine Plan.det 29 rfl (Grow.refl) ?_
        apply Exists.intro
        refine ⟨fun vs x hR hF K hK => ?_, ?_⟩
        · have f12 := hF 15 _ _ rfl rfl; have f27 := hF 0 _ _ rfl rfl; clear hF
          go_simp
          exact hK _ _ (Grow.refl _) rfl
        refine Plan.det 30 rfl (Grow.refl) ?_
        apply Exists.intro
        refine ⟨fun vs x hR hF K hK => ?_, ?_⟩
        · have f0 := hF 28 _ _ rfl rfl; have f1 := hF 27 _ _ rfl rfl; have f2 := hF 26 _ _ rfl rfl; have f3 := hF 25 _ _ rfl rfl; have f4 := hF 24 _ _ rfl rfl; have f5 := hF 23 _ _ rfl rfl; have f6 := hF 22 _ _ rfl rfl; have f7 := hF 21 _ _ rfl rfl; have f8 := hF 20 _ _ rfl rfl; have f9 := hF 19 _ _ rfl rfl; have f10 := hF 18 _ _ rfl rfl; have f11 := hF 17 _ _ rfl rfl; have f12 := hF 16 _ _ rfl rfl; have f13 := hF 15 _ _ rfl rfl; have f14 := hF 14 _ _ rfl rfl; have f15 := hF 13 _ _ rfl rfl; have f16 := hF 12 _ _ rfl rfl; have f17 := hF 11 _ _ rfl rfl; have f18 := hF 10 _ _ rfl rfl; have f19 := hF 9 _ _ rfl rfl; have f20 := hF 8 _ _ rfl rfl; have f21 := hF 7 _ _ rfl rfl; have f22 := hF 6 _ _ rfl rfl; have f23 := hF 5 _ _ rfl rfl; have f24 := hF 4 _ _ rfl rfl; have f25 := hF 3 _ _ rfl rfl; have f26 := hF 2 _ _ rfl rfl; have f27 := hF 1 _ _ rfl rfl; have f28 := hF 0 _ _ rfl rfl; clear hF
          go_simp
          exact hK _ _ (Grow.refl _) rfl
        refine Plan.nil (fun vs x hR hF => ?_)
        have f0 := hF 29 _ _ rfl; have f1 := hF 28 _ _ rfl; have f2 := hF 27 _ _ rfl; have f3 := hF 26 _ _ rfl; have f4 := hF 25 _ _ rfl; have f5 := hF 24 _ _ rfl; have f6 := hF 23 _ _ rfl; have f7 := hF 22 _ _ rfl; have f8 := hF 21 _ _ rfl; have f9 := hF 20 _ _ rfl; have f10 := hF 19 _ _ rfl; have f11 := hF 18 _ _ rfl; have f12 := hF 17 _ _ rfl; have f13 := hF 16 _ _ rfl; have f14 := hF 15 _ _ rfl; have f15 := hF 14 _ _ rfl; have f16 := hF 13 _ _ rfl; have f17 := hF 12 _ _ rfl; have f18 := hF 11 _ _ rfl; have f19 := hF 10 _ _ rfl; have f20 := hF 9 _ _ rfl; have f21 := hF 8 _ _ rfl; have f22 := hF 7 _ _ rfl; have f23 := hF 6 _ _ rfl; have f24 := hF 5 _ _ rfl; have f25 := hF 4 _ _ rfl; have f26 := hF 3 _ _ rfl; have f27 := hF 2 _ _ rfl; have f28 := hF 1 _ _ rfl; have f29 := hF 0 _ _ rfl
        clear hF
        simp only [f0, f1, f2, f3, f4, f5, f6, f7, f8, f9, f10, f11, f12, f13, f14, f15, f16, f17, f18, f19, f20, f21, f22, f23, f24, f25, f26, f27, f28, f29]
        clear f0 f1 f2 f3 f4 f5 f6 f7 f8 f9 f10 f11 f12 f13 f14 f15 f16 f17 f18 f19 f20 f21 f22 f23 f24 f25 f26 f27 f28 f29
        simp only [List.drop_succ_cons, List.drop_zero]
        have hbx : Below w.heap.size w x := below_grow HB2.out (by simp; try omega) hR
        have HBX := hid hbx
        clear HC hR hbx
        go_wp2_with fail
        go_ret
        exact ⟨ret_bool (by rw [HPL.out]; try rfl), HBX.out⟩
    · have HPL : Hid (againOf s.data.toList ((a : Int), (b : Int)) i = false) := by
        show _ = _
        unfold againOf
        rw [HSL.out]
        dsimp only
        rw [hm, decide_eq_false (show ¬ i + (b - a) ≤ s.size by omega)]
        simp
      have d0 : decide ((b : Int) - (a : Int) ≤ (s.size : Int) - (i : Int)) = false := by simp; omega
      clear hm
      go_enter Try.func52, Try.ntmps52
      go_wp2_with fail
      refine wp_region_inv 30 (Grow) (by kernel_rfl) (by kernel_rfl) (Grow.refl) (fun _ _ _ => Grow.trans) ?_
      simp only [fill, dstOf, Act.put, List.take_succ_cons, List.take_zero, List.getElem?_toArray, List.getElem?_cons_zero, List.getElem?_cons_succ, Option.bind_some, List.setIfInBounds_toArray, List.set_cons_zero, List.set_cons_succ]
      refine Plan.det 1 rfl (Grow.refl) ?_
      apply Exists.intro
      refine ⟨fun vs x hR hF K hK => ?_, ?_⟩
      · clear hF
        go_simp
        exact hK _ _ (Grow.refl _) rfl
      refine Plan.det 2 rfl (Grow.refl) ?_
      apply Exists.intro
      refine ⟨fun vs x hR hF K hK => ?_, ?_⟩
      · have f0 := hF 0 _ _ rfl rfl; have hc := HC.out x hR; clear hF
        go_simp
        exact hK _ _ (Grow.refl _) rfl
      refine Plan.det 3 rfl (Grow.refl) ?_
      apply Exists.intro
      refine ⟨fun vs x hR hF K hK => ?_, ?_⟩
      · have f1 := hF 0 _ _ rfl rfl; clear hF
        go_simp
        exact hK _ _ (Grow.refl _) rfl
      refine Plan.det 4 rfl (Grow.refl) ?_
      apply Exists.intro
      refine ⟨fun vs x hR hF K hK => ?_, ?_⟩
      · have f2 := hF 0 _ _ rfl rfl; clear hF
        go_simp
        exact hK _ _ (Grow.refl _) rfl
      refine Plan.det 5 rfl (Grow.refl) ?_
      apply Exists.intro
      refine ⟨fun vs x hR hF K hK => ?_, ?_⟩
      · have f3 := hF 0 _ _ rfl rfl; clear hF
        go_simp
        exact hK _ _ (Grow.refl _) rfl
      refine Plan.det 6 rfl (Grow.refl) ?_
      apply Exists.intro
      refine ⟨fun vs x hR hF K hK => ?_, ?_⟩
      · have f3 := hF 1 _ _ rfl rfl; clear hF
        go_simp
        exact hK _ _ (Grow.refl _) rfl
      refine Plan.det 7 rfl (Grow.refl) ?_
      apply Exists.intro
      refine ⟨fun vs x hR hF K hK => ?_, ?_⟩
      · have f3 := hF 2 _ _ rfl rfl; have f5 := hF 0 _ _ rfl rfl; have hc := HC.out x hR; clear hF
        go_simp
        exact hK _ _ (Grow.refl _) rfl
      refine Plan.det 8 rfl (Grow.refl) ?_
      apply Exists.intro
      refine ⟨fun vs x hR hF K hK => ?_, ?_⟩
      · have f3 := hF 3 _ _ rfl rfl; have f6 := hF 0 _ _ rfl rfl; clear hF
        go_simp
        exact hK _ _ (Grow.refl _) rfl
      refine Plan.det 9 rfl (Grow.refl) ?_
      apply Exists.intro
      refine ⟨fun vs x hR hF K hK => ?_, ?_⟩
      · have f3 := hF 4 _ _ rfl rfl; clear hF
        go_simp
        exact hK _ _ (Grow.refl _) rfl
      refine Plan.det 10 rfl (Grow.refl) ?_
      apply Exists.intro
      refine ⟨fun vs x hR hF K hK => ?_, ?_⟩
      · have f3 := hF 5 _ _ rfl rfl; have f7 := hF 1 _ _ rfl rfl; have f8 := hF 0 _ _ rfl rfl; clear hF
        go_simp
        exact hK _ _ (Grow.refl _) rfl
      refine Plan.det 11 rfl (Grow.refl) ?_
      apply Exists.intro
      refine ⟨fun vs x hR hF K hK => ?_, ?_⟩
      · have f3 := hF 6 _ _ rfl rfl; have f4 := hF 5 _ _ rfl rfl; have f9 := hF 0 _ _ rfl rfl; clear hF
        go_simp
        exact hK _ _ (Grow.refl _) rfl
      refine Plan.det 12 rfl (Grow.refl) ?_
      apply Exists.intro
      refine ⟨fun vs x hR hF K hK => ?_, ?_⟩
      · have f3 := hF 7 _ _ rfl rfl; have f10 := hF 0 _ _ rfl rfl; clear hF
        go_simp
        exact hK _ _ (Grow.refl _) rfl
      refine Plan.det 13 rfl (Grow.refl) ?_
      apply Exists.intro
      refine ⟨fun vs x hR hF K hK => ?_, ?_⟩
      · have f3 := hF 8 _ _ rfl rfl; have f11 := hF 0 _ _ rfl rfl; clear hF
        go_simp
        exact hK _ _ (Grow.refl _) rfl
      refine Plan.det 14 rfl (Grow.refl) ?_
      apply Exists.intro
      refine ⟨fun vs x hR hF K hK => ?_, ?_⟩
      · have f12 := hF 0 _ _ rfl rfl; clear hF
        go_simp
        exact hK _ _ (Grow.refl _) rfl
      refine Plan.det 15 rfl (Grow.refl) ?_
      apply Exists.intro
      refine ⟨fun vs x hR hF K hK => ?_, ?_⟩
      · have f12 := hF 1 _ _ rfl rfl; have f13 := hF 0 _ _ rfl rfl; have hc := HC.out x hR; clear hF
        go_simp
        exact hK _ _ (Grow.refl _) rfl
      refine Plan.det 16 rfl (Grow.refl) ?_
      apply Exists.intro
      refine ⟨fun vs x hR hF K hK => ?_, ?_⟩
      · have f12 := hF 2 _ _ rfl rfl; clear hF
        go_simp
        exact hK _ _ (Grow.refl _) rfl
      refine Plan.det 17 rfl (Grow.refl) ?_
      apply Exists.intro
      refine ⟨fun vs x hR hF K hK => ?_, ?_⟩
      · have f12 := hF 3 _ _ rfl rfl; clear hF
        go_simp
        exact hK _ _ (Grow.refl _) rfl
      refine Plan.det 18 rfl (Grow.refl) ?_
      apply Exists.intro
      refine ⟨fun vs x hR hF K hK => ?_, ?_⟩
      · have f12 := hF 4 _ _ rfl rfl; clear hF
        go_simp
        exact hK _ _ (Grow.refl _) rfl
      refine Plan.det 19 rfl (Grow.refl) ?_
      apply Exists.intro
      refine ⟨fun vs x hR hF K hK => ?_, ?_⟩
      · have f12 := hF 5 _ _ rfl rfl; have f16 := hF 1 _ _ rfl rfl; have f17 := hF 0 _ _ rfl rfl; clear hF
        go_simp
        exact hK _ _ (Grow.refl _) rfl
      refine Plan.det 20 rfl (Grow.refl) ?_
      apply Exists.intro
      refine ⟨fun vs x hR hF K hK => ?_, ?_⟩
      · have f12 := hF 6 _ _ rfl rfl; have f14 := hF 4 _ _ rfl rfl; have f15 := hF 3 _ _ rfl rfl; have f18 := hF 0 _ _ rfl rfl; clear hF
        go_simp
        exact hK _ _ (Grow.refl _) rfl
      refine Plan.det 21 rfl (Grow.refl) ?_
      apply Exists.intro
      refine ⟨fun vs x hR hF K hK => ?_, ?_⟩
      · have f12 := hF 7 _ _ rfl rfl; clear hF
        go_simp
        exact hK _ _ (Grow.refl _) rfl
      refine Plan.det 22 rfl (Grow.refl) ?_
      apply Exists.intro
      refine ⟨fun vs x hR hF K hK => ?_, ?_⟩
      · have f12 := hF 8 _ _ rfl rfl; have f20 := hF 0 _ _ rfl rfl; have hc := HC.out x hR; clear hF
        go_simp
        exact hK _ _ (Grow.refl _) rfl
      refine Plan.det 23 rfl (Grow.refl) ?_
      apply Exists.intro
      refine ⟨fun vs x hR hF K hK => ?_, ?_⟩
      · have f12 := hF 9 _ _ rfl rfl; clear hF
        go_simp
        exact hK _ _ (Grow.refl _) rfl
      refine Plan.det 24 rfl (Grow.refl) ?_
      apply Exists.intro
      refine ⟨fun vs x hR hF K hK => ?_, ?_⟩
      · have f12 := hF 10 _ _ rfl rfl; have f22 := hF 0 _ _ rfl rfl; have hc := HC.out x hR; clear hF
        go_simp
        exact hK _ _ (Grow.refl _) rfl
      refine Plan.det 25 rfl (Grow.refl) ?_
      apply Exists.intro
      refine ⟨fun vs x hR hF K hK => ?_, ?_⟩
      · have f12 := hF 11 _ _ rfl rfl; clear hF
        go_simp
        exact hK _ _ (Grow.refl _) rfl
      refine Plan.det 26 rfl (Grow.refl) ?_
      apply Exists.intro
      refine ⟨fun vs x hR hF K hK => ?_, ?_⟩
      · have f12 := hF 12 _ _ rfl rfl; have f24 := hF 0 _ _ rfl rfl; have hc := HC.out x hR; clear hF
        go_simp
        exact hK _ _ (Grow.refl _) rfl
      refine Plan.det 27 rfl (Grow.refl) ?_
      apply Exists.intro
      refine ⟨fun vs x hR hF K hK => ?_, ?_⟩
      · have f12 := hF 13 _ _ rfl rfl; have f21 := hF 4 _ _ rfl rfl; have f23 := hF 2 _ _ rfl rfl; have f25 := hF 0 _ _ rfl rfl; clear hF
        go_simp
        exact hK _ _ (Grow.refl _) rfl
      refine Plan.det 28 rfl (Grow.refl) ?_
      apply Exists.intro
      refine ⟨fun vs x hR hF K hK => ?_, ?_⟩
      · have f12 := hF 14 _ _ rfl rfl; have f19 := hF 7 _ _ rfl rfl; have f26 := hF 0 _ _ rfl rfl; clear hF
        go_simp
        exact hK _ _ (Grow.refl _) rfl
      refine Plan.det 29 rfl (Grow.refl) ?_
      apply Exists.intro
      refine ⟨fun vs x hR hF K hK => ?_, ?_⟩
      · have f12 := hF 15 _ _ rfl rfl; have f27 := hF 0 _ _ rfl rfl; clear hF
        go_simp
        exact hK _ _ (Grow.refl _) rfl
      refine Plan.det 30 rfl (Grow.refl) ?_
      apply Exists.intro
      refine ⟨fun vs x hR hF K hK => ?_, ?_⟩
      · have f0 := hF 28 _ _ rfl rfl; have f1 := hF 27 _ _ rfl rfl; have f2 := hF 26 _ _ rfl rfl; have f3 := hF 25 _ _ rfl rfl; have f4 := hF 24 _ _ rfl rfl; have f5 := hF 23 _ _ rfl rfl; have f6 := hF 22 _ _ rfl rfl; have f7 := hF 21 _ _ rfl rfl; have f8 := hF 20 _ _ rfl rfl; have f9 := hF 19 _ _ rfl rfl; have f10 := hF 18 _ _ rfl rfl; have f11 := hF 17 _ _ rfl rfl; have f12 := hF 16 _ _ rfl rfl; have f13 := hF 15 _ _ rfl rfl; have f14 := hF 14 _ _ rfl rfl; have f15 := hF 13 _ _ rfl rfl; have f16 := hF 12 _ _ rfl rfl; have f17 := hF 11 _ _ rfl rfl; have f18 := hF 10 _ _ rfl rfl; have f19 := hF 9 _ _ rfl rfl; have f20 := hF 8 _ _ rfl rfl; have f21 := hF 7 _ _ rfl rfl; have f22 := hF 6 _ _ rfl rfl; have f23 := hF 5 _ _ rfl rfl; have f24 := hF 4 _ _ rfl rfl; have f25 := hF 3 _ _ rfl rfl; have f26 := hF 2 _ _ rfl rfl; have f27 := hF 1 _ _ rfl rfl; have f28 := hF 0 _ _ rfl rfl; clear hF
        go_simp
        exact hK _ _ (Grow.refl _) rfl
      refine Plan.nil (fun vs x hR hF => ?_)
      have f0 := hF 29 _ _ rfl; have f1 := hF 28 _ _ rfl; have f2 := hF 27 _ _ rfl; have f3 := hF 26 _ _ rfl; have f4 := hF 25 _ _ rfl; have f5 := hF 24 _ _ rfl; have f6 := hF 23 _ _ rfl; have f7 := hF 22 _ _ rfl; have f8 := hF 21 _ _ rfl; have f9 := hF 20 _ _ rfl; have f10 := hF 19 _ _ rfl; have f11 := hF 18 _ _ rfl; have f12 := hF 17 _ _ rfl; have f13 := hF 16 _ _ rfl; have f14 := hF 15 _ _ rfl; have f15 := hF 14 _ _ rfl; have f16 := hF 13 _ _ rfl; have f17 := hF 12 _ _ rfl; have f18 := hF 11 _ _ rfl; have f19 := hF 10 _ _ rfl; have f20 := hF 9 _ _ rfl; have f21 := hF 8 _ _ rfl; have f22 := hF 7 _ _ rfl; have f23 := hF 6 _ _ rfl; have f24 := hF 5 _ _ rfl; have f25 := hF 4 _ _ rfl; have f26 := hF 3 _ _ rfl; have f27 := hF 2 _ _ rfl; have f28 := hF 1 _ _ rfl; have f29 := hF 0 _ _ rfl
      clear hF
      simp only [f0, f1, f2, f3, f4, f5, f6, f7, f8, f9, f10, f11, f12, f13, f14, f15, f16, f17, f18, f19, f20, f21, f22, f23, f24, f25, f26, f27, f28, f29]
      clear f0 f1 f2 f3 f4 f5 f6 f7 f8 f9 f10 f11 f12 f13 f14 f15 f16 f17 f18 f19 f20 f21 f22 f23 f24 f25 f26 f27 f28 f29
      simp only [List.drop_succ_cons, List.drop_zero]
      have hbx : Below w.heap.size w x := below_grow HB2.out (by simp; try omega) hR
      have HBX := hid hbx
      clear HC hR hbx
      go_wp2_with fail
      go_ret
      exact ⟨ret_bool (by rw [HPL.out]; try rfl), HBX.out⟩
end Go.Proofs.Ythnpbopnpdlmnaa
