/- The reference's right and Valid, of any program. -/
import Derived.Test.YtjjhdddlbgdkeaaDoorG24
import Derived.Test.YtjjhdddlbgdkeaaDoorG02
import Derived.BigQuiet
namespace Go.Proofs.YtjjhdddlbgdkeaaDoor
open Go.RowKit
attribute [local go_sem] gives givesUpon

def RtPost (f : Inst) (n k : Nat) (w : World) (e : Ending) (w' : World) : Prop := ∃ b, e = .returned (.bool b) ∧ (b = true ↔ f.right n k) ∧ Below w.heap.size w w'
set_option maxRecDepth 100000 in
set_option maxHeartbeats 8000000 in
theorem right_ref_any (f : Inst) (n k : Nat) (w : World) (hn : n ≤ 2000000) (hk : k < n) :
    Calls Tryd.prog 12 #[.agg f.cells.toArray, .int .i64 k, .int .i64 n] w (RtPost f n k w) := by
  obtain ⟨fop, fset, fx, fy⟩ := f
  have HPT : Hid (∀ w', (Inst.mk fop fset fx fy).right n k → Below w.heap.size w w' → RtPost ⟨fop, fset, fx, fy⟩ n k w (.returned (.bool true)) w') := fun w' h1 h2 => ⟨true, rfl, by simp [h1], h2⟩
  have HPF : Hid (∀ w', ¬ (Inst.mk fop fset fx fy).right n k → Below w.heap.size w w' → RtPost ⟨fop, fset, fx, fy⟩ n k w (.returned (.bool false)) w') := fun w' h1 h2 => ⟨false, rfl, by simp [h1], h2⟩
  generalize RtPost ⟨fop, fset, fx, fy⟩ n k w = PP at *
  have HBA : Hid (Below w.heap.size w (w.alloc (.cells #[.int .i64 fop, .int .u64 fset.a, .int .u64 fset.b, .int .u64 fset.c, .int .u64 fset.d, .int .i64 fx, .int .i64 fy] 35))) := (Below.refl _ _).alloc (Nat.le_refl _) _
  have HBX : Hid (Row (w.alloc (.cells #[.int .i64 fop, .int .u64 fset.a, .int .u64 fset.b, .int .u64 fset.c, .int .u64 fset.d, .int .i64 fx, .int .i64 fy] 35)) w.heap.size [.int .i64 fop, .int .u64 fset.a, .int .u64 fset.b, .int .u64 fset.c, .int .u64 fset.d, .int .i64 fx, .int .i64 fy] 35) := Row.at w [.int .i64 fop, .int .u64 fset.a, .int .u64 fset.b, .int .u64 fset.c, .int .u64 fset.d, .int .i64 fx, .int .i64 fy] _
  unfold Inst.right at HPT HPF
  simp only at HPT HPF
  simp only [Inst.cells]
  go_enter Tryd.func12, Tryd.ntmps12
  go_upto_region 1 with fail
  generalize w.alloc (.cells #[.int .i64 fop, .int .u64 fset.a, .int .u64 fset.b, .int .u64 fset.c, .int .u64 fset.d, .int .i64 fx, .int .i64 fy] 35) = y at *
  generalize w.heap.size = bx at *
  have q := row7 HBX.out
  have hcase : (fop = 1 ∨ fop = 4 ∨ fop = 5) ∨ fop = 2 ∨ fop = 3 ∨ fop = 6 ∨ (¬ fop = 1 ∧ ¬ fop = 2 ∧ ¬ fop = 3 ∧ ¬ fop = 4 ∧ ¬ fop = 5 ∧ ¬ fop = 6) := by omega
  rcases hcase with ho | ho | ho | ho | ho
  · have HO3 := hid ho
    rcases Nat.lt_or_ge (k + 1) n with hk1 | hk1
    · have hkJ : (k : Int) + 1 < (n : Int) := by omega
      rcases ho with rfl | rfl | rfl
      all_goals
        go_wp2_with fail
        all_goals (try go_ret)
        all_goals exact HPT.out _ (.inl ⟨HO3.out, hk1⟩) HBA.out
    · have hkJ : ¬ (k : Int) + 1 < (n : Int) := by omega
      have dkJ : decide ((k : Int) + 1 < (n : Int)) = false := by simpa using hkJ
      rcases ho with rfl | rfl | rfl
      all_goals
        go_wp2_with fail
        all_goals (try go_ret)
        all_goals exact HPF.out _ (by omega) HBA.out
  · subst ho
    rcases Int.lt_or_le fx 0 with h1 | h1
    · have d1 : decide (0 ≤ fx) = false := by simp; omega
      go_wp2_with fail
      all_goals (try go_ret)
      all_goals exact HPF.out _ (by omega) HBA.out
    rcases Int.lt_or_le fx n with h2 | h2
    case inr =>
      have d1 : decide (fx < (n : Int)) = false := by simp; omega
      go_wp2_with fail
      all_goals (try go_ret)
      all_goals exact HPF.out _ (by omega) HBA.out
    rcases Int.lt_or_le fy 0 with h3 | h3
    · have d1 : decide (0 ≤ fy) = false := by simp; omega
      go_wp2_with fail
      all_goals (try go_ret)
      all_goals exact HPF.out _ (by omega) HBA.out
    rcases Int.lt_or_le fy n with h4 | h4
    case inr =>
      have d1 : decide (fy < (n : Int)) = false := by simp; omega
      go_wp2_with fail
      all_goals (try go_ret)
      all_goals exact HPF.out _ (by omega) HBA.out
    go_wp2_with fail
    all_goals (try go_ret)
    all_goals exact HPT.out _ (.inr (.inl ⟨trivial, ⟨h1, h2⟩, h3, h4⟩)) HBA.out
  · subst ho
    rcases Int.lt_or_le fx 0 with h1 | h1
    · have d1 : decide (0 ≤ fx) = false := by simp; omega
      go_wp2_with fail
      all_goals (try go_ret)
      all_goals exact HPF.out _ (by omega) HBA.out
    rcases Int.lt_or_le fx n with h2 | h2
    case inr =>
      have d1 : decide (fx < (n : Int)) = false := by simp; omega
      go_wp2_with fail
      all_goals (try go_ret)
      all_goals exact HPF.out _ (by omega) HBA.out
    go_wp2_with fail
    all_goals (try go_ret)
    all_goals exact HPT.out _ (.inr (.inr (.inl ⟨trivial, h1, h2⟩))) HBA.out
  · subst ho
    go_wp2_with fail
    all_goals (try go_ret)
    all_goals exact HPT.out _ (.inr (.inr (.inr trivial))) HBA.out
  · obtain ⟨n1, n2, n3, n4, n5, n6⟩ := ho
    have d1 : (fop == 1) = false := by simpa using n1
    have d2 : (fop == 2) = false := by simpa using n2
    have d3 : (fop == 3) = false := by simpa using n3
    have d4 : (fop == 4) = false := by simpa using n4
    have d5 : (fop == 5) = false := by simpa using n5
    have d6 : (fop == 6) = false := by simpa using n6
    go_wp2_with fail
    all_goals (try go_ret)
    all_goals exact HPF.out _ (by omega) HBA.out
set_option maxRecDepth 100000 in
set_option maxHeartbeats 8000000 in
theorem ValidR_any (w : World) (a : Option Addr) (c : Nat) (L : List Inst) (lines : Bool) (h : InsAt w a L) (hn : L.length ≤ 1048576) :
    Calls Tryd.prog 6 #[.agg #[.slice a L.length c, .bool lines]] w (VPost L w) := by
  have H := hid h
  clear h
  have HPT : Hid (∀ w', rightAll L → Below w.heap.size w w' → VPost L w (.returned (.bool true)) w') := fun w' h1 h2 => ⟨true, rfl, by simp [h1], h2⟩
  have HPF : Hid (∀ w', ¬ rightAll L → Below w.heap.size w w' → VPost L w (.returned (.bool false)) w') := fun w' h1 h2 => ⟨false, rfl, by simp [h1], h2⟩
  generalize VPost L w = PP at *
  have HBX : Hid (Row (w.alloc (.cells #[.slice a L.length c, .bool lines] 24)) w.heap.size [.slice a L.length c, .bool lines] 24) := Row.at w [.slice a L.length c, .bool lines] _
  have HB0 : Hid (Below w.heap.size w (w.alloc (.cells #[.slice a L.length c, .bool lines] 24))) := Grow.alloc w _
  go_enter Tryd.func6, Tryd.ntmps6
  go_upto_region 1 with fail
  generalize w.alloc (.cells #[.slice a L.length c, .bool lines] 24) = w1 at *
  have HBL := hid HBX.out.lt
  go_wp2_with fail
  go_loopw [3] (fun v wr => ∃ k : Nat, k ≤ L.length ∧ v = .int .i64 k ∧ Hid (Below w1.heap.size w1 wr) ∧ Hid (∀ j (h : j < L.length), j < k → L[j].right L.length j)) (fun v _ => L.length - (intOf v).toNat)
  case atStart => exact ⟨0, by omega, rfl, Below.refl _ _, fun j h hj => absurd hj (by omega)⟩
  case round =>
    obtain ⟨k, hk, rfl, HX, HK⟩ := hrel
    have HBX2 := hid (HBX.out.below HX.out HBL.out)
    have HBW : Hid (Below w.heap.size w wr) := HB0.out.trans (HX.out.mono HB0.out.size)
    have q : wr.cell? ⟨w.heap.size, 0, none⟩ = some (.slice a L.length c) := HBX2.out.cell 0
    have z := HBX2.out.lt
    rcases Nat.lt_or_ge k L.length with hlt | hge
    · have HNR := hid (fun hn => @not_right L k hlt hn)
      have HST : Hid (L[k].right L.length k → ∀ j (h : j < L.length), j < k + 1 → L[j].right L.length j) := by
        intro h1 j h hj
        rcases Nat.lt_or_ge j k with h2 | h2
        · exact HK.out j h h2
        · obtain rfl : j = k := by omega
          exact h1
      obtain ⟨fb, fo, hfa, hfb, hfc⟩ := (H.out.below HBW.out (Nat.le_refl _)).at hlt
      subst hfa
      have HRT := hid (fun (x : World) => right_ref_any L[k] L.length k x (by omega) hlt)
      generalize L[k] = f at *
      obtain ⟨fop, fset, fx, fy⟩ := f
      have HF2 : Hid (CellsAt wr fb (fo + k * 7) [.int .i64 fop, .int .u64 fset.a, .int .u64 fset.b, .int .u64 fset.c, .int .u64 fset.d, .int .i64 fx, .int .i64 fy]) := hfc
      have HFB : Hid (fb < wr.heap.size) := hfb
      have hkI : (k : Int) < (L.length : Int) := by omega
      clear hfc hfb
      go_upto_region 4 with fail
      clear q z
      have HC := hid (fun (x : World) (hx : Grow wr.drew x) => (show (x.cell? ⟨w.heap.size, 0, none⟩ = some (.slice (some ⟨fb, fo, none⟩) L.length c)) ∧ (x.cell? ⟨fb, fo + k * 7, none⟩ = some (.int .i64 fop) ∧ x.cell? ⟨fb, fo + k * 7 + 1, none⟩ = some (.int .u64 fset.a) ∧ x.cell? ⟨fb, fo + k * 7 + 2, none⟩ = some (.int .u64 fset.b) ∧ x.cell? ⟨fb, fo + k * 7 + 3, none⟩ = some (.int .u64 fset.c) ∧ x.cell? ⟨fb, fo + k * 7 + 4, none⟩ = some (.int .u64 fset.d) ∧ x.cell? ⟨fb, fo + k * 7 + 5, none⟩ = some (.int .i64 fx) ∧ x.cell? ⟨fb, fo + k * 7 + 6, none⟩ = some (.int .i64 fy)) from by
        have hb : Below wr.heap.size wr x := ⟨hx.os, hx.tape, hx.output, hx.size, hx.block⟩
        have hq := cells7 (show CellsAt x fb (fo + k * 7) [.int .i64 fop, .int .u64 fset.a, .int .u64 fset.b, .int .u64 fset.c, .int .u64 fset.d, .int .i64 fx, .int .i64 fy] from fun j v hj => by
          rw [hb.cell (p := ⟨fb, fo + k * 7 + j, none⟩) HFB.out]
          exact HF2.out j v hj)
        exact ⟨(HBX2.out.below hb HBX2.out.lt).cell 0, hq⟩))
      by_cases hrt : (Inst.mk fop fset fx fy).right L.length k
      · have HRY : Hid (∀ x, Calls Tryd.prog 12 #[.agg #[.int .i64 fop, .int .u64 fset.a, .int .u64 fset.b, .int .u64 fset.c, .int .u64 fset.d, .int .i64 fx, .int .i64 fy], .int .i64 k, .int .i64 L.length] x fun e w' => e = .returned (.bool true) ∧ Below x.heap.size x w') := by
          intro x
          refine (HRT.out x).mono ?_
          rintro e w' ⟨b, rfl, h1, h2⟩
          rw [h1.2 hrt]
          exact ⟨rfl, h2⟩
        clear HRT
        refine wp_region_inv 11 (Grow) (by kernel_rfl) (by kernel_rfl) (Grow.refl) (fun _ _ _ => Grow.trans) ?_
        simp only [fill, dstOf, Act.put, List.take_succ_cons, List.take_zero, List.getElem?_toArray, List.getElem?_cons_zero, List.getElem?_cons_succ, Option.bind_some, List.setIfInBounds_toArray, List.set_cons_zero, List.set_cons_succ]
        refine Plan.det 1 rfl (Grow.refl) ?_
        apply Exists.intro
        refine ⟨fun vs x hR hF K hK => ?_, ?_⟩
        · clear hF
          go_simp
          exact hK _ _ (Grow.refl _) rfl
        refine Plan.det 2 rfl (Grow.refl) ?_
        apply Exists.intro
        refine ⟨fun vs x hR hF K hK => ?_, ?_⟩
        · have f0 := hF 0 _ _ rfl rfl; have hc := HC.out x hR; clear hF
          go_simp
          exact hK _ _ (Grow.refl _) rfl
        refine Plan.det 3 rfl (Grow.refl) ?_
        apply Exists.intro
        refine ⟨fun vs x hR hF K hK => ?_, ?_⟩
        · clear hF
          go_simp
          exact hK _ _ (Grow.refl _) rfl
        refine Plan.det 4 rfl (Grow.refl) ?_
        apply Exists.intro
        refine ⟨fun vs x hR hF K hK => ?_, ?_⟩
        · have f1 := hF 1 _ _ rfl rfl; have f2 := hF 0 _ _ rfl rfl; clear hF
          go_simp
          exact hK _ _ (Grow.refl _) rfl
        refine Plan.det 5 rfl (Grow.refl) ?_
        apply Exists.intro
        refine ⟨fun vs x hR hF K hK => ?_, ?_⟩
        · have f3 := hF 0 _ _ rfl rfl; have hc := HC.out x hR; clear hF
          go_simp
          exact hK _ _ (Grow.refl _) rfl
        refine Plan.det 6 rfl (Grow.refl) ?_
        apply Exists.intro
        refine ⟨fun vs x hR hF K hK => ?_, ?_⟩
        · clear hF
          go_simp
          exact hK _ _ (Grow.refl _) rfl
        refine Plan.det 7 rfl (Grow.refl) ?_
        apply Exists.intro
        refine ⟨fun vs x hR hF K hK => ?_, ?_⟩
        · clear hF
          go_simp
          exact hK _ _ (Grow.refl _) rfl
        refine Plan.det 8 rfl (Grow.refl) ?_
        apply Exists.intro
        refine ⟨fun vs x hR hF K hK => ?_, ?_⟩
        · have f6 := hF 0 _ _ rfl rfl; have hc := HC.out x hR; clear hF
          go_simp
          exact hK _ _ (Grow.refl _) rfl
        refine Plan.det 9 rfl (Grow.refl) ?_
        apply Exists.intro
        refine ⟨fun vs x hR hF K hK => ?_, ?_⟩
        · have f7 := hF 0 _ _ rfl rfl; clear hF
          go_simp
          exact hK _ _ (Grow.refl _) rfl
        refine Plan.det 10 rfl (Grow.refl) ?_
        apply Exists.intro
        refine ⟨fun vs x hR hF K hK => ?_, ?_⟩
        · have f4 := hF 4 _ _ rfl rfl; have f5 := hF 3 _ _ rfl rfl; have f8 := hF 0 _ _ rfl rfl; clear hF
          go_simp
          refine (HRY.out x).mono ?_
          rintro e x1 ⟨rfl, hbe⟩
          exact ⟨_, rfl, hK _ _ hbe rfl⟩
        refine Plan.det 11 rfl (Grow.refl) ?_
        apply Exists.intro
        refine ⟨fun vs x hR hF K hK => ?_, ?_⟩
        · have f9 := hF 0 _ _ rfl rfl; clear hF
          go_simp
          exact hK _ _ (Grow.refl _) rfl
        refine Plan.nil (fun vs x hR hF => ?_)
        have f0 := hF 10 _ _ rfl; have f1 := hF 9 _ _ rfl; have f2 := hF 8 _ _ rfl; have f3 := hF 7 _ _ rfl; have f4 := hF 6 _ _ rfl; have f5 := hF 5 _ _ rfl; have f6 := hF 4 _ _ rfl; have f7 := hF 3 _ _ rfl; have f8 := hF 2 _ _ rfl; have f9 := hF 1 _ _ rfl; have f10 := hF 0 _ _ rfl
        clear hF
        simp only [f0, f1, f2, f3, f4, f5, f6, f7, f8, f9, f10]
        clear f0 f1 f2 f3 f4 f5 f6 f7 f8 f9 f10
        simp only [List.drop_succ_cons, List.drop_zero]
        have hbx : Below wr.heap.size wr x := ⟨hR.os, hR.tape, hR.output, hR.size, hR.block⟩
        have HX2 := hid (HX.out.trans (hbx.mono HX.out.size))
        clear HC hR hbx
        go_wp2_with fail
        case roundEnd =>
          refine ⟨⟨k + 1, hlt, rfl, HX2.out, HST.out hrt⟩, ?_⟩
          show L.length - ((k : Int) + 1).toNat < L.length - (k : Int).toNat
          omega
      · have HRY : Hid (∀ x, Calls Tryd.prog 12 #[.agg #[.int .i64 fop, .int .u64 fset.a, .int .u64 fset.b, .int .u64 fset.c, .int .u64 fset.d, .int .i64 fx, .int .i64 fy], .int .i64 k, .int .i64 L.length] x fun e w' => e = .returned (.bool false) ∧ Below x.heap.size x w') := by
          intro x
          refine (HRT.out x).mono ?_
          rintro e w' ⟨b, rfl, h1, h2⟩
          have hb : b = false := by
            cases b
            · rfl
            · exact absurd (h1.1 rfl) hrt
          rw [hb]
          exact ⟨rfl, h2⟩
        clear HRT
        refine wp_region_inv 11 (Grow) (by kernel_rfl) (by kernel_rfl) (Grow.refl) (fun _ _ _ => Grow.trans) ?_
        simp only [fill, dstOf, Act.put, List.take_succ_cons, List.take_zero, List.getElem?_toArray, List.getElem?_cons_zero, List.getElem?_cons_succ, Option.bind_some, List.setIfInBounds_toArray, List.set_cons_zero, List.set_cons_succ]
        refine Plan.det 1 rfl (Grow.refl) ?_
        apply Exists.intro
        refine ⟨fun vs x hR hF K hK => ?_, ?_⟩
        · clear hF
          go_simp
          exact hK _ _ (Grow.refl _) rfl
        refine Plan.det 2 rfl (Grow.refl) ?_
        apply Exists.intro
        refine ⟨fun vs x hR hF K hK => ?_, ?_⟩
        · have f0 := hF 0 _ _ rfl rfl; have hc := HC.out x hR; clear hF
          go_simp
          exact hK _ _ (Grow.refl _) rfl
        refine Plan.det 3 rfl (Grow.refl) ?_
        apply Exists.intro
        refine ⟨fun vs x hR hF K hK => ?_, ?_⟩
        · clear hF
          go_simp
          exact hK _ _ (Grow.refl _) rfl
        refine Plan.det 4 rfl (Grow.refl) ?_
        apply Exists.intro
        refine ⟨fun vs x hR hF K hK => ?_, ?_⟩
        · have f1 := hF 1 _ _ rfl rfl; have f2 := hF 0 _ _ rfl rfl; clear hF
          go_simp
          exact hK _ _ (Grow.refl _) rfl
        refine Plan.det 5 rfl (Grow.refl) ?_
        apply Exists.intro
        refine ⟨fun vs x hR hF K hK => ?_, ?_⟩
        · have f3 := hF 0 _ _ rfl rfl; have hc := HC.out x hR; clear hF
          go_simp
          exact hK _ _ (Grow.refl _) rfl
        refine Plan.det 6 rfl (Grow.refl) ?_
        apply Exists.intro
        refine ⟨fun vs x hR hF K hK => ?_, ?_⟩
        · clear hF
          go_simp
          exact hK _ _ (Grow.refl _) rfl
        refine Plan.det 7 rfl (Grow.refl) ?_
        apply Exists.intro
        refine ⟨fun vs x hR hF K hK => ?_, ?_⟩
        · clear hF
          go_simp
          exact hK _ _ (Grow.refl _) rfl
        refine Plan.det 8 rfl (Grow.refl) ?_
        apply Exists.intro
        refine ⟨fun vs x hR hF K hK => ?_, ?_⟩
        · have f6 := hF 0 _ _ rfl rfl; have hc := HC.out x hR; clear hF
          go_simp
          exact hK _ _ (Grow.refl _) rfl
        refine Plan.det 9 rfl (Grow.refl) ?_
        apply Exists.intro
        refine ⟨fun vs x hR hF K hK => ?_, ?_⟩
        · have f7 := hF 0 _ _ rfl rfl; clear hF
          go_simp
          exact hK _ _ (Grow.refl _) rfl
        refine Plan.det 10 rfl (Grow.refl) ?_
        apply Exists.intro
        refine ⟨fun vs x hR hF K hK => ?_, ?_⟩
        · have f4 := hF 4 _ _ rfl rfl; have f5 := hF 3 _ _ rfl rfl; have f8 := hF 0 _ _ rfl rfl; clear hF
          go_simp
          refine (HRY.out x).mono ?_
          rintro e x1 ⟨rfl, hbe⟩
          exact ⟨_, rfl, hK _ _ hbe rfl⟩
        refine Plan.det 11 rfl (Grow.refl) ?_
        apply Exists.intro
        refine ⟨fun vs x hR hF K hK => ?_, ?_⟩
        · have f9 := hF 0 _ _ rfl rfl; clear hF
          go_simp
          exact hK _ _ (Grow.refl _) rfl
        refine Plan.nil (fun vs x hR hF => ?_)
        have f0 := hF 10 _ _ rfl; have f1 := hF 9 _ _ rfl; have f2 := hF 8 _ _ rfl; have f3 := hF 7 _ _ rfl; have f4 := hF 6 _ _ rfl; have f5 := hF 5 _ _ rfl; have f6 := hF 4 _ _ rfl; have f7 := hF 3 _ _ rfl; have f8 := hF 2 _ _ rfl; have f9 := hF 1 _ _ rfl; have f10 := hF 0 _ _ rfl
        clear hF
        simp only [f0, f1, f2, f3, f4, f5, f6, f7, f8, f9, f10]
        clear f0 f1 f2 f3 f4 f5 f6 f7 f8 f9 f10
        simp only [List.drop_succ_cons, List.drop_zero]
        have hbx : Below wr.heap.size wr x := ⟨hR.os, hR.tape, hR.output, hR.size, hR.block⟩
        have HX2 := hid (HBW.out.trans (hbx.mono HBW.out.size))
        clear HC hR hbx
        go_wp2_with fail
        all_goals (try go_ret)
        all_goals exact HPF.out _ (HNR.out hrt) HX2.out
    · obtain rfl : k = L.length := by omega
      rcases Nat.eq_zero_or_pos L.length with h0 | h0
      · have HNR : Hid (¬ rightAll L) := fun hr => by have := hr.1.1; omega
        have hL : L = [] := List.length_eq_zero_iff.1 h0
        subst hL
        go_wp2_with fail
        all_goals (try go_ret)
        all_goals exact HPF.out _ HNR.out HBW.out
      · have d1 : decide (1 ≤ (L.length : Int)) = true := by simp; omega
        rcases Nat.lt_or_ge 4096 L.length with h1 | h1
        · have HNR : Hid (¬ rightAll L) := fun hr => by have := hr.1.2; omega
          have d2 : decide ((L.length : Int) ≤ 4096) = false := by simp; omega
          go_wp2_with fail
          all_goals (try go_ret)
          all_goals exact HPF.out _ HNR.out HBW.out
        · have HNR : Hid (rightAll L) := ⟨⟨h0, h1⟩, fun j h => HK.out j h h⟩
          have d2 : decide ((L.length : Int) ≤ 4096) = true := by simp; omega
          go_wp2_with fail
          all_goals (try go_ret)
          all_goals exact HPT.out _ HNR.out HBW.out
end Go.Proofs.YtjjhdddlbgdkeaaDoor

/- A line of a program by the reference, and its Print. -/
namespace Go.Proofs.YtjjhdddlbgdkeaaDoor
open Go.RowKit
attribute [local go_sem] gives givesUpon

theorem restOf_len (f : Inst) (n k : Nat) (hr : f.right n k) (hn : n ≤ 4096) : (restOf f).length ≤ 4000 := by
  unfold Inst.right at hr
  unfold restOf
  split
  · have := rtext_len f.set 256 (by omega); omega
  split
  · have h1 := dec_len (n := f.x.toNat) (by omega)
    have h2 := dec_len (n := f.y.toNat) (by omega)
    simp only [List.length_cons, List.length_append]
    omega
  split
  · have h1 := dec_len (n := f.x.toNat) (by omega)
    simp only [List.length_cons]
    omega
  · simp
theorem wordOf_len (op : Int) : (wordOf op).length ≤ 5 := by
  unfold wordOf
  repeat' split
  all_goals simp
theorem str_eq {a b : ByteArray} (h : a = b) : Value.string a = Value.string b := by rw [h]
set_option maxRecDepth 100000 in
set_option maxHeartbeats 8000000 in
theorem line_any (f : Inst) (n k : Nat) (w : World) (hwf : f.set.wf) (hr : f.right n k) (hn : n ≤ 4096) :
    Calls Tryd.prog 19 #[.agg f.cells.toArray] w fun e w' => e = .returned (.string (bs (wordOf f.op ++ restOf f))) ∧ Below w.heap.size w w' := by
  obtain ⟨fop, fset, fx, fy⟩ := f
  have HPP : Hid (∀ (v : ByteArray) w', v = bs (wordOf fop ++ restOf ⟨fop, fset, fx, fy⟩) → Below w.heap.size w w' → Ending.returned (.string v) = .returned (.string (bs (wordOf fop ++ restOf ⟨fop, fset, fx, fy⟩))) ∧ Below w.heap.size w w') := fun v w' h1 h2 => ⟨by rw [h1], h2⟩
  have HBA : Hid (Below w.heap.size w (w.alloc (.cells #[.int .i64 fop, .int .u64 fset.a, .int .u64 fset.b, .int .u64 fset.c, .int .u64 fset.d, .int .i64 fx, .int .i64 fy] 35))) := (Below.refl _ _).alloc (Nat.le_refl _) _
  have HBX : Hid (Row (w.alloc (.cells #[.int .i64 fop, .int .u64 fset.a, .int .u64 fset.b, .int .u64 fset.c, .int .u64 fset.d, .int .i64 fx, .int .i64 fy] 35)) w.heap.size [.int .i64 fop, .int .u64 fset.a, .int .u64 fset.b, .int .u64 fset.c, .int .u64 fset.d, .int .i64 fx, .int .i64 fy] 35) := Row.at w [.int .i64 fop, .int .u64 fset.a, .int .u64 fset.b, .int .u64 fset.c, .int .u64 fset.d, .int .i64 fx, .int .i64 fy] _
  unfold Inst.right at hr
  simp only at hr
  have hwf' : fset.wf := hwf
  have HRG := hid (fun (y : World) => Ranges_any fset y hwf')
  have HRX := hid (fun (y : World) => FormatR_any fx.toNat y)
  have HRY := hid (fun (y : World) => FormatR_any fy.toNat y)
  simp only [Inst.cells]
  clear hwf hwf'
  go_enter Tryd.func19, Tryd.ntmps19
  go_upto_region 1 with fail
  generalize w.alloc (.cells #[.int .i64 fop, .int .u64 fset.a, .int .u64 fset.b, .int .u64 fset.c, .int .u64 fset.d, .int .i64 fx, .int .i64 fy] 35) = y at *
  generalize hbx : w.heap.size = bx at HBX
  have q := row7 HBX.out
  by_cases h1 : fop = 1
  · subst h1
    have HE : Hid ((⟨#[115, 101, 116]⟩ : ByteArray) ++ bs (rtext fset 256) = bs (wordOf 1 ++ restOf ⟨1, fset, fx, fy⟩)) := by
      show bs [115, 101, 116] ++ bs (rtext fset 256) = _
      rw [bs_app]
      rfl
    have hlen : (bs (rtext fset 256)).size ≤ 3072 := by rw [bs_size]; exact rtext_len fset 256 (by omega)
    go_wp2_with fail
    refine (HRG.out y).mono ?_
    rintro e w2 ⟨rfl, hb2⟩
    have HB2 := hid (HBA.out.trans (hb2.mono HBA.out.size))
    clear hb2
    go_wp2_with fail
    all_goals (try go_ret)
    all_goals subst hbx
    all_goals exact HPP.out _ _ HE.out HB2.out
  by_cases h2 : fop = 2
  · subst h2
    obtain ⟨hx, hy⟩ : (0 ≤ fx ∧ fx < n) ∧ (0 ≤ fy ∧ fy < n) := by omega
    have hx2 : fx = (fx.toNat : Int) := by omega
    have hy2 : fy = (fy.toNat : Int) := by omega
    have hxl : fx.toNat < 100000 := by omega
    have hyl : fy.toNat < 100000 := by omega
    have HE : Hid ((⟨#[115, 112, 108, 105, 116, 32]⟩ : ByteArray) ++ bs (dec fx.toNat) ++ (⟨#[32]⟩ : ByteArray) ++ bs (dec fy.toNat) = bs (wordOf 2 ++ restOf ⟨2, fset, fx, fy⟩)) := by
      show bs [115, 112, 108, 105, 116, 32] ++ bs (dec fx.toNat) ++ bs [32] ++ bs (dec fy.toNat) = _
      rw [bs_app, bs_app, bs_app]
      congr 1
      show _ = [115, 112, 108, 105, 116] ++ 32 :: (dec fx.toNat ++ 32 :: dec fy.toNat)
      simp
    have hd1 : (bs (dec fx.toNat)).size ≤ 5 := by rw [bs_size]; exact dec_len hxl
    have hd2 : (bs (dec fy.toNat)).size ≤ 5 := by rw [bs_size]; exact dec_len hyl
    generalize fx.toNat = xn at *
    generalize fy.toNat = yn at *
    subst hx2 hy2
    have HCX := hid (fun (z : World) => HRX.out z hxl)
    have HCY := hid (fun (z : World) => HRY.out z hyl)
    clear HRX HRY HRG
    go_upto_region 5 with fail
    have HC := hid (fun (x : World) (hx : Grow y.drew x) => (show x.cell? ⟨bx, 5, none⟩ = some (.int .i64 xn) ∧ x.cell? ⟨bx, 6, none⟩ = some (.int .i64 yn) from by
      have h := HBX.out.below (show Below y.heap.size y x from ⟨hx.os, hx.tape, hx.output, hx.size, hx.block⟩) HBX.out.lt
      exact ⟨h.cell 5, h.cell 6⟩))
    clear q
    refine wp_region_inv 10 (Grow) (by kernel_rfl) (by kernel_rfl) (Grow.refl) (fun _ _ _ => Grow.trans) ?_
    simp only [fill, dstOf, Act.put, List.take_succ_cons, List.take_zero, List.getElem?_toArray, List.getElem?_cons_zero, List.getElem?_cons_succ, Option.bind_some, List.setIfInBounds_toArray, List.set_cons_zero, List.set_cons_succ]
    refine Plan.det 1 rfl (Grow.refl) ?_
    apply Exists.intro
    refine ⟨fun vs x hR hF K hK => ?_, ?_⟩
    · clear hF
      go_simp
      exact hK _ _ (Grow.refl _) rfl
    refine Plan.det 2 rfl (Grow.refl) ?_
    apply Exists.intro
    refine ⟨fun vs x hR hF K hK => ?_, ?_⟩
    · have f0 := hF 0 _ _ rfl rfl; have hc := HC.out x hR; clear hF
      go_simp
      exact hK _ _ (Grow.refl _) rfl
    refine Plan.det 3 rfl (Grow.refl) ?_
    apply Exists.intro
    refine ⟨fun vs x hR hF K hK => ?_, ?_⟩
    · have f1 := hF 0 _ _ rfl rfl; clear hF
      go_simp
      refine (HCX.out x).mono ?_
      rintro e x1 ⟨rfl, hbe⟩
      exact ⟨_, rfl, hK _ _ hbe rfl⟩
    refine Plan.det 4 rfl (Grow.refl) ?_
    apply Exists.intro
    refine ⟨fun vs x hR hF K hK => ?_, ?_⟩
    · have f2 := hF 0 _ _ rfl rfl; clear hF
      go_simp
      rw [if_neg (by omega)]
      exact hK _ _ (Grow.refl _) rfl
    refine Plan.det 5 rfl (Grow.refl) ?_
    apply Exists.intro
    refine ⟨fun vs x hR hF K hK => ?_, ?_⟩
    · have f3 := hF 0 _ _ rfl rfl; clear hF
      go_simp
      rw [if_neg (by omega)]
      exact hK _ _ (Grow.refl _) rfl
    refine Plan.det 6 rfl (Grow.refl) ?_
    apply Exists.intro
    refine ⟨fun vs x hR hF K hK => ?_, ?_⟩
    · clear hF
      go_simp
      exact hK _ _ (Grow.refl _) rfl
    refine Plan.det 7 rfl (Grow.refl) ?_
    apply Exists.intro
    refine ⟨fun vs x hR hF K hK => ?_, ?_⟩
    · have f5 := hF 0 _ _ rfl rfl; have hc := HC.out x hR; clear hF
      go_simp
      exact hK _ _ (Grow.refl _) rfl
    refine Plan.det 8 rfl (Grow.refl) ?_
    apply Exists.intro
    refine ⟨fun vs x hR hF K hK => ?_, ?_⟩
    · have f2 := hF 4 _ _ rfl rfl; have f6 := hF 0 _ _ rfl rfl; clear hF
      go_simp
      refine (HCY.out x).mono ?_
      rintro e x1 ⟨rfl, hbe⟩
      exact ⟨_, rfl, hK _ _ hbe rfl⟩
    refine Plan.det 9 rfl (Grow.refl) ?_
    apply Exists.intro
    refine ⟨fun vs x hR hF K hK => ?_, ?_⟩
    · have f4 := hF 3 _ _ rfl rfl; have f7 := hF 0 _ _ rfl rfl; clear hF
      go_simp
      rw [if_neg (by omega)]
      exact hK _ _ (Grow.refl _) rfl
    refine Plan.det 10 rfl (Grow.refl) ?_
    apply Exists.intro
    refine ⟨fun vs x hR hF K hK => ?_, ?_⟩
    · have f0 := hF 8 _ _ rfl rfl; have f1 := hF 7 _ _ rfl rfl; have f2 := hF 6 _ _ rfl rfl; have f3 := hF 5 _ _ rfl rfl; have f4 := hF 4 _ _ rfl rfl; have f5 := hF 3 _ _ rfl rfl; have f6 := hF 2 _ _ rfl rfl; have f7 := hF 1 _ _ rfl rfl; have f8 := hF 0 _ _ rfl rfl; clear hF
      go_simp
      exact hK _ _ (Grow.refl _) rfl
    refine Plan.nil (fun vs x hR hF => ?_)
    have f0 := hF 9 _ _ rfl; have f1 := hF 8 _ _ rfl; have f2 := hF 7 _ _ rfl; have f3 := hF 6 _ _ rfl; have f4 := hF 5 _ _ rfl; have f5 := hF 4 _ _ rfl; have f6 := hF 3 _ _ rfl; have f7 := hF 2 _ _ rfl; have f8 := hF 1 _ _ rfl; have f9 := hF 0 _ _ rfl
    clear hF
    simp only [f0, f1, f2, f3, f4, f5, f6, f7, f8, f9]
    clear f0 f1 f2 f3 f4 f5 f6 f7 f8 f9
    simp only [List.drop_succ_cons, List.drop_zero]
    have hbx2 : Below y.heap.size y x := ⟨hR.os, hR.tape, hR.output, hR.size, hR.block⟩
    have HB2 := hid (HBA.out.trans (hbx2.mono HBA.out.size))
    clear HC hR hbx2
    go_wp2_with fail
    all_goals (try go_ret)
    all_goals subst hbx
    all_goals exact HPP.out _ _ HE.out HB2.out
  by_cases h3 : fop = 3
  · subst h3
    obtain hx : 0 ≤ fx ∧ fx < n := by omega
    have hx2 : fx = (fx.toNat : Int) := by omega
    have hxl : fx.toNat < 100000 := by omega
    have HE : Hid ((⟨#[106, 117, 109, 112, 32]⟩ : ByteArray) ++ bs (dec fx.toNat) = bs (wordOf 3 ++ restOf ⟨3, fset, fx, fy⟩)) := by
      show bs [106, 117, 109, 112, 32] ++ bs (dec fx.toNat) = _
      rw [bs_app]
      rfl
    have hd1 : (bs (dec fx.toNat)).size ≤ 5 := by rw [bs_size]; exact dec_len hxl
    have HCX := hid (fun (z : World) => HRX.out z hxl)
    clear HRX HRY HRG
    generalize fx.toNat = xn at *
    subst hx2
    go_wp2_with fail
    refine (HCX.out y).mono ?_
    rintro e w2 ⟨rfl, hb2⟩
    have HB2 := hid (HBA.out.trans (hb2.mono HBA.out.size))
    clear hb2
    go_wp2_with fail
    all_goals (try go_ret)
    all_goals subst hbx
    all_goals exact HPP.out _ _ HE.out HB2.out
  have hcase : fop = 4 ∨ fop = 5 ∨ fop = 6 := by omega
  have d1 : (fop == 1) = false := by simpa using h1
  have d2 : (fop == 2) = false := by simpa using h2
  have d3 : (fop == 3) = false := by simpa using h3
  rcases hcase with rfl | rfl | rfl
  all_goals
    go_wp2_with fail
    all_goals (try go_ret)
    all_goals subst hbx
    all_goals exact HPP.out _ _ rfl HBA.out
end Go.Proofs.YtjjhdddlbgdkeaaDoor
