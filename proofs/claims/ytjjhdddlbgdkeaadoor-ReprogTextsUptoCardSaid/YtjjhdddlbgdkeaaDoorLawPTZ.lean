/- The law ReprogTexts: its walk answers true. -/
import Derived.Test.YtjjhdddlbgdkeaaDoorG28
import Derived.Test.YtjjhdddlbgdkeaaDoorG33
import Derived.Test.YtjjhdddlbgdkeaaDoorG30
namespace Go.Proofs.YtjjhdddlbgdkeaaDoor
open Go.RowKit
attribute [local go_sem] gives givesUpon

/-- Valid's answer, for good. -/
theorem valid_is (w : World) (a : Option Addr) (c : Nat) (L : List Inst) (l : Bool) (h : InsAt w a L) (hn : L.length ≤ 1048576) : ∃ bv : Bool, (bv = true ↔ rightAll L) ∧ ∀ x, Below w.heap.size w x → Calls Tryd.prog 5 #[.agg #[.slice a L.length c, .bool l]] x fun e w' => e = .returned (.bool bv) ∧ Below x.heap.size x w' := by
  by_cases hr : rightAll L
  · refine ⟨true, by simp [hr], fun x hx => (Valid3_any x a c L l (h.below hx (Nat.le_refl _)) hn).mono ?_⟩
    rintro e w' ⟨b, rfl, hb, hb2⟩
    obtain rfl : b = true := hb.2 hr
    exact ⟨rfl, hb2⟩
  · refine ⟨false, by simp [hr], fun x hx => (Valid3_any x a c L l (h.below hx (Nat.le_refl _)) hn).mono ?_⟩
    rintro e w' ⟨b, rfl, hb, hb2⟩
    obtain rfl : b = false := by
      cases b with
      | false => rfl
      | true => exact absurd (hb.1 rfl) hr
    exact ⟨rfl, hb2⟩
set_option maxRecDepth 100000 in
set_option maxHeartbeats 8000000 in
theorem LawTexts_any (w : World) (a b : Option Addr) (c d : Nat) (L M : List Inst) (l m : Bool) (h1 : InsAt w a L) (h2 : InsAt w b M) (w1 : ∀ k (h : k < L.length), L[k].set.wf) (w2 : ∀ k (h : k < M.length), M[k].set.wf) (hL : L.length ≤ 1048576) (hM : M.length ≤ 1048576) (ht : Tabs w) (h8 : 2 ≤ w.heap.size) :
    Calls Tryd.prog 4 #[.agg #[.slice a L.length c, .bool l], .agg #[.slice b M.length d, .bool m]] w fun e w' => e = .returned (.bool true) ∧ Below w.heap.size w w' := by
  have HB0 : Hid (Below w.heap.size w ((w.alloc (.cells #[.slice a L.length c, .bool l] 24)).alloc (.cells #[.slice b M.length d, .bool m] 24))) := (Grow.alloc w _).trans (Grow.alloc _ _)
  have HX1 : Hid (Row ((w.alloc (.cells #[.slice a L.length c, .bool l] 24)).alloc (.cells #[.slice b M.length d, .bool m] 24)) w.heap.size [.slice a L.length c, .bool l] 24) := (Row.at w [.slice a L.length c, .bool l] 24).below (Grow.alloc _ _) (by simp)
  have HX2 : Hid (Row ((w.alloc (.cells #[.slice a L.length c, .bool l] 24)).alloc (.cells #[.slice b M.length d, .bool m] 24)) (w.heap.size + 1) [.slice b M.length d, .bool m] 24) := row_snd _ _ _ _
  have HV1 := valid_is w a c L l h1 hL
  have HV2 := valid_is w b d M m h2 hM
  obtain ⟨v1, hv1, HV1⟩ := HV1
  obtain ⟨v2, hv2, HV2⟩ := HV2
  have HV1 := hid HV1
  have HV2 := hid HV2
  have HREST : Hid (v1 = true → v2 = true → ∃ (T1 T2 : ByteArray) (bv : Bool), (bv = true ↔ T1 = T2) ∧ Hid (∀ x, Below w.heap.size w x → Calls Tryd.prog 7 #[.agg #[.slice a L.length c, .bool l]] x fun e w' => e = .returned (.string T1) ∧ Below x.heap.size x w') ∧ Hid (∀ x, Below w.heap.size w x → Calls Tryd.prog 7 #[.agg #[.slice b M.length d, .bool m]] x fun e w' => e = .returned (.string T2) ∧ Below x.heap.size x w') ∧ Hid (∀ x, Below w.heap.size w x → Calls Tryd.prog 10 #[.agg #[.slice a L.length c, .bool l], .agg #[.slice b M.length d, .bool m]] x fun e w' => e = .returned (.bool bv) ∧ Below x.heap.size x w')) := by
    intro g1 g2
    have r1 := hv1.1 g1
    have r2 := hv2.1 g2
    have HTA : progText L l = progText M m ↔ alike L M l m := text_alike r1 r2 w1 w2
    refine ⟨bs (progText L l), bs (progText M m), decide (progText L l = progText M m), ?_, fun x hx => (Print_any x a c L l (h1.below hx (Nat.le_refl _)) w1 hL (ht.below hx h8) (Nat.le_trans h8 hx.size)).mono ?_, fun x hx => (Print_any x b d M m (h2.below hx (Nat.le_refl _)) w2 hM (ht.below hx h8) (Nat.le_trans h8 hx.size)).mono ?_, fun x hx => (Alike_any x a b c d L M l m (h1.below hx (Nat.le_refl _)) (h2.below hx (Nat.le_refl _)) hL hM).mono ?_⟩
    · rw [decide_eq_true_eq]
      constructor
      · intro h; rw [h]
      · intro h; rw [← bs_list (progText L l), h, bs_list]
    · rintro e w' ⟨hb2, t', rfl, ht'⟩
      obtain rfl := PrIs.unique ht' (.inl ⟨r1, rfl⟩)
      exact ⟨rfl, hb2⟩
    · rintro e w' ⟨hb2, t', rfl, ht'⟩
      obtain rfl := PrIs.unique ht' (.inl ⟨r2, rfl⟩)
      exact ⟨rfl, hb2⟩
    · rintro e w' ⟨bv, rfl, hb, hb2⟩
      refine ⟨?_, hb2⟩
      have : bv = decide (progText L l = progText M m) := by
        rw [Bool.eq_iff_iff, decide_eq_true_eq, hb, HTA]
      rw [this]
  clear h1 h2 w1 w2 ht hv1 hv2
  go_enter Tryd.func4, Tryd.ntmps4
  go_upto_region 1 with fail
  generalize ((w.alloc (.cells #[.slice a L.length c, .bool l] 24)).alloc (.cells #[.slice b M.length d, .bool m] 24)) = y at *
  have q1 : y.cell? ⟨w.heap.size, 0, none⟩ = some (.slice a L.length c) ∧ y.cell? ⟨w.heap.size, 1, none⟩ = some (.bool l) := ⟨HX1.out.cell 0, HX1.out.cell 1⟩
  generalize hb0 : w.heap.size = b0 at q1 HX1 HX2
  have HB0E := hid hb0
  clear hb0
  go_wp2_with fail
  refine (HV1.out y HB0.out).mono ?_
  rintro e y1 ⟨rfl, hb1⟩
  have HX1a := hid (HX1.out.below hb1 HX1.out.lt)
  have HX2a := hid (HX2.out.below hb1 HX2.out.lt)
  have HYA := hid (HB0.out.trans (hb1.mono HB0.out.size))
  clear hb1 q1
  cases v1 with
  | false =>
    go_wp2_with fail
    refine (awake_any _).mono ?_
    rintro e w5 ⟨rfl, hb5⟩
    have HB5 := hid (HYA.out.trans (hb5.mono HYA.out.size))
    clear hb5
    go_wp2_with fail
    all_goals (try go_ret)
    all_goals exact ⟨rfl, HB5.out⟩
  | true =>
    have q2 : y1.cell? ⟨b0 + 1, 0, none⟩ = some (.slice b M.length d) ∧ y1.cell? ⟨b0 + 1, 1, none⟩ = some (.bool m) := ⟨HX2a.out.cell 0, HX2a.out.cell 1⟩
    go_wp2_with fail
    refine (HV2.out y1 HYA.out).mono ?_
    rintro e y2 ⟨rfl, hb2⟩
    have HX1b := hid (HX1a.out.below hb2 HX1a.out.lt)
    have HX2b := hid (HX2a.out.below hb2 HX2a.out.lt)
    have HYB := hid (HYA.out.trans (hb2.mono HYA.out.size))
    clear hb2 q2
    cases v2 with
    | false =>
      go_wp2_with fail
      refine (awake_any _).mono ?_
      rintro e w5 ⟨rfl, hb5⟩
      have HB5 := hid (HYB.out.trans (hb5.mono HYB.out.size))
      clear hb5
      go_wp2_with fail
      all_goals (try go_ret)
      all_goals exact ⟨rfl, HB5.out⟩
    | true =>
      obtain ⟨T1, T2, bv, hbv, HP1, HP2, HA⟩ := HREST.out (by trivial) (by trivial)
      by_cases hT : T1 = T2
      · have hb : bv = true := hbv.2 hT
        subst hT hb
        clear hbv
        have HPL := hid (fun (x : World) (hx : Below w.heap.size w x) => (HP1.out x hx))
        have HPM := hid (fun (x : World) (hx : Below w.heap.size w x) => (HP2.out x hx))
        have HAK := hid (fun (x : World) (hx : Below w.heap.size w x) => (HA.out x hx))
        go_upto_region 3 with fail
        have HC := hid (fun (x : World) (hx : Grow y2.drew x) => (show (x.cell? ⟨b0, 0, none⟩ = some (.slice a L.length c) ∧ x.cell? ⟨b0, 1, none⟩ = some (.bool l)) ∧ (x.cell? ⟨b0 + 1, 0, none⟩ = some (.slice b M.length d) ∧ x.cell? ⟨b0 + 1, 1, none⟩ = some (.bool m)) from by
          have hb : Below y2.heap.size y2 x := ⟨hx.os, hx.tape, hx.output, hx.size, hx.block⟩
          have g1 := HX1b.out.below hb HX1b.out.lt
          have g2 := HX2b.out.below hb HX2b.out.lt
          exact ⟨⟨g1.cell 0, g1.cell 1⟩, g2.cell 0, g2.cell 1⟩))
        have HBZ := hid (fun (x : World) (hx : Grow y2.drew x) => HYB.out.trans ((show Below y2.heap.size y2 x from ⟨hx.os, hx.tape, hx.output, hx.size, hx.block⟩).mono HYB.out.size))
        have HAW := hid (fun (x : World) => awake_any x)
        refine wp_region_inv 12 (Grow) (by kernel_rfl) (by kernel_rfl) (Grow.refl) (fun _ _ _ => Grow.trans) ?_
        simp only [fill, dstOf, Act.put, List.take_succ_cons, List.take_zero, List.getElem?_toArray, List.getElem?_cons_zero, List.getElem?_cons_succ, Option.bind_some, List.setIfInBounds_toArray, List.set_cons_zero, List.set_cons_succ]
        refine Plan.det 1 rfl (Grow.refl) ?_
        apply Exists.intro
        refine ⟨fun vs x hR hF K hK => ?_, ?_⟩
        · have hc := HC.out x hR; clear hF
          go_simp
          exact hK _ _ (Grow.refl _) rfl
        refine Plan.det 2 rfl (Grow.refl) ?_
        apply Exists.intro
        refine ⟨fun vs x hR hF K hK => ?_, ?_⟩
        · have f0 := hF 0 _ _ rfl rfl; clear hF
          go_simp
          refine (HPL.out x (HBZ.out x hR)).mono ?_
          rintro e x1 ⟨rfl, hbe⟩
          exact ⟨_, rfl, hK _ _ hbe rfl⟩
        refine Plan.det 3 rfl (Grow.refl) ?_
        apply Exists.intro
        refine ⟨fun vs x hR hF K hK => ?_, ?_⟩
        · have hc := HC.out x hR; clear hF
          go_simp
          exact hK _ _ (Grow.refl _) rfl
        refine Plan.det 4 rfl (Grow.refl) ?_
        apply Exists.intro
        refine ⟨fun vs x hR hF K hK => ?_, ?_⟩
        · have f1 := hF 1 _ _ rfl rfl; have f2 := hF 0 _ _ rfl rfl; clear hF
          go_simp
          refine (HPM.out x (HBZ.out x hR)).mono ?_
          rintro e x1 ⟨rfl, hbe⟩
          exact ⟨_, rfl, hK _ _ hbe rfl⟩
        refine Plan.det 5 rfl (Grow.refl) ?_
        apply Exists.intro
        refine ⟨fun vs x hR hF K hK => ?_, ?_⟩
        · have f1 := hF 2 _ _ rfl rfl; have f3 := hF 0 _ _ rfl rfl; clear hF
          go_simp
          exact hK _ _ (Grow.refl _) rfl
        refine Plan.det 6 rfl (Grow.refl) ?_
        apply Exists.intro
        refine ⟨fun vs x hR hF K hK => ?_, ?_⟩
        · have hc := HC.out x hR; clear hF
          go_simp
          exact hK _ _ (Grow.refl _) rfl
        refine Plan.det 7 rfl (Grow.refl) ?_
        apply Exists.intro
        refine ⟨fun vs x hR hF K hK => ?_, ?_⟩
        · have hc := HC.out x hR; clear hF
          go_simp
          exact hK _ _ (Grow.refl _) rfl
        refine Plan.det 8 rfl (Grow.refl) ?_
        apply Exists.intro
        refine ⟨fun vs x hR hF K hK => ?_, ?_⟩
        · have f3 := hF 3 _ _ rfl rfl; have f5 := hF 1 _ _ rfl rfl; have f6 := hF 0 _ _ rfl rfl; clear hF
          go_simp
          refine (HAK.out x (HBZ.out x hR)).mono ?_
          rintro e x1 ⟨rfl, hbe⟩
          exact ⟨_, rfl, hK _ _ hbe rfl⟩
        refine Plan.det 9 rfl (Grow.refl) ?_
        apply Exists.intro
        refine ⟨fun vs x hR hF K hK => ?_, ?_⟩
        · have f4 := hF 3 _ _ rfl rfl; have f7 := hF 0 _ _ rfl rfl; clear hF
          go_simp
          exact hK _ _ (Grow.refl _) rfl
        refine Plan.det 10 rfl (Grow.refl) ?_
        apply Exists.intro
        refine ⟨fun vs x hR hF K hK => ?_, ?_⟩
        · have f7 := hF 1 _ _ rfl rfl; have f8 := hF 0 _ _ rfl rfl; clear hF
          go_simp
          exact hK _ _ (Grow.refl _) rfl
        refine Plan.det 11 rfl (Grow.refl) ?_
        apply Exists.intro
        refine ⟨fun vs x hR hF K hK => ?_, ?_⟩
        · have f9 := hF 0 _ _ rfl rfl; clear hF
          go_simp
          refine (HAW.out x).mono ?_
          rintro e x1 ⟨rfl, hbe⟩
          exact ⟨_, rfl, hK _ _ hbe rfl⟩
        refine Plan.det 12 rfl (Grow.refl) ?_
        apply Exists.intro
        refine ⟨fun vs x hR hF K hK => ?_, ?_⟩
        · have f9 := hF 1 _ _ rfl rfl; have f10 := hF 0 _ _ rfl rfl; clear hF
          go_simp
          exact hK _ _ (Grow.refl _) rfl
        refine Plan.nil (fun vs x hR hF => ?_)
        have f0 := hF 11 _ _ rfl; have f1 := hF 10 _ _ rfl; have f2 := hF 9 _ _ rfl; have f3 := hF 8 _ _ rfl; have f4 := hF 7 _ _ rfl; have f5 := hF 6 _ _ rfl; have f6 := hF 5 _ _ rfl; have f7 := hF 4 _ _ rfl; have f8 := hF 3 _ _ rfl; have f9 := hF 2 _ _ rfl; have f10 := hF 1 _ _ rfl; have f11 := hF 0 _ _ rfl
        clear hF
        simp only [f0, f1, f2, f3, f4, f5, f6, f7, f8, f9, f10, f11]
        clear f0 f1 f2 f3 f4 f5 f6 f7 f8 f9 f10 f11
        simp only [List.drop_succ_cons, List.drop_zero]
        have HBE := hid (HBZ.out x hR)
        clear HC hR
        go_wp2_with fail
        all_goals (try go_ret)
        all_goals exact ⟨rfl, HBE.out⟩
      · have hb : bv = false := by
          cases bv with
          | false => rfl
          | true => exact absurd (hbv.1 rfl) hT
        subst hb
        have dT : ¬ T1.toList = T2.toList := fun h => hT (Go.WideShapes.bytes_inj (by rw [Lib.toList_data, Lib.toList_data] at h; exact h))
        clear hbv
        have HPL := hid (fun (x : World) (hx : Below w.heap.size w x) => (HP1.out x hx))
        have HPM := hid (fun (x : World) (hx : Below w.heap.size w x) => (HP2.out x hx))
        have HAK := hid (fun (x : World) (hx : Below w.heap.size w x) => (HA.out x hx))
        go_upto_region 3 with fail
        have HC := hid (fun (x : World) (hx : Grow y2.drew x) => (show (x.cell? ⟨b0, 0, none⟩ = some (.slice a L.length c) ∧ x.cell? ⟨b0, 1, none⟩ = some (.bool l)) ∧ (x.cell? ⟨b0 + 1, 0, none⟩ = some (.slice b M.length d) ∧ x.cell? ⟨b0 + 1, 1, none⟩ = some (.bool m)) from by
          have hb : Below y2.heap.size y2 x := ⟨hx.os, hx.tape, hx.output, hx.size, hx.block⟩
          have g1 := HX1b.out.below hb HX1b.out.lt
          have g2 := HX2b.out.below hb HX2b.out.lt
          exact ⟨⟨g1.cell 0, g1.cell 1⟩, g2.cell 0, g2.cell 1⟩))
        have HBZ := hid (fun (x : World) (hx : Grow y2.drew x) => HYB.out.trans ((show Below y2.heap.size y2 x from ⟨hx.os, hx.tape, hx.output, hx.size, hx.block⟩).mono HYB.out.size))
        have HAW := hid (fun (x : World) => awake_any x)
        refine wp_region_inv 12 (Grow) (by kernel_rfl) (by kernel_rfl) (Grow.refl) (fun _ _ _ => Grow.trans) ?_
        simp only [fill, dstOf, Act.put, List.take_succ_cons, List.take_zero, List.getElem?_toArray, List.getElem?_cons_zero, List.getElem?_cons_succ, Option.bind_some, List.setIfInBounds_toArray, List.set_cons_zero, List.set_cons_succ]
        refine Plan.det 1 rfl (Grow.refl) ?_
        apply Exists.intro
        refine ⟨fun vs x hR hF K hK => ?_, ?_⟩
        · have hc := HC.out x hR; clear hF
          go_simp
          exact hK _ _ (Grow.refl _) rfl
        refine Plan.det 2 rfl (Grow.refl) ?_
        apply Exists.intro
        refine ⟨fun vs x hR hF K hK => ?_, ?_⟩
        · have f0 := hF 0 _ _ rfl rfl; clear hF
          go_simp
          refine (HPL.out x (HBZ.out x hR)).mono ?_
          rintro e x1 ⟨rfl, hbe⟩
          exact ⟨_, rfl, hK _ _ hbe rfl⟩
        refine Plan.det 3 rfl (Grow.refl) ?_
        apply Exists.intro
        refine ⟨fun vs x hR hF K hK => ?_, ?_⟩
        · have hc := HC.out x hR; clear hF
          go_simp
          exact hK _ _ (Grow.refl _) rfl
        refine Plan.det 4 rfl (Grow.refl) ?_
        apply Exists.intro
        refine ⟨fun vs x hR hF K hK => ?_, ?_⟩
        · have f1 := hF 1 _ _ rfl rfl; have f2 := hF 0 _ _ rfl rfl; clear hF
          go_simp
          refine (HPM.out x (HBZ.out x hR)).mono ?_
          rintro e x1 ⟨rfl, hbe⟩
          exact ⟨_, rfl, hK _ _ hbe rfl⟩
        refine Plan.det 5 rfl (Grow.refl) ?_
        apply Exists.intro
        refine ⟨fun vs x hR hF K hK => ?_, ?_⟩
        · have f1 := hF 2 _ _ rfl rfl; have f3 := hF 0 _ _ rfl rfl; clear hF
          go_simp
          exact hK _ _ (Grow.refl _) rfl
        refine Plan.det 6 rfl (Grow.refl) ?_
        apply Exists.intro
        refine ⟨fun vs x hR hF K hK => ?_, ?_⟩
        · have hc := HC.out x hR; clear hF
          go_simp
          exact hK _ _ (Grow.refl _) rfl
        refine Plan.det 7 rfl (Grow.refl) ?_
        apply Exists.intro
        refine ⟨fun vs x hR hF K hK => ?_, ?_⟩
        · have hc := HC.out x hR; clear hF
          go_simp
          exact hK _ _ (Grow.refl _) rfl
        refine Plan.det 8 rfl (Grow.refl) ?_
        apply Exists.intro
        refine ⟨fun vs x hR hF K hK => ?_, ?_⟩
        · have f3 := hF 3 _ _ rfl rfl; have f5 := hF 1 _ _ rfl rfl; have f6 := hF 0 _ _ rfl rfl; clear hF
          go_simp
          refine (HAK.out x (HBZ.out x hR)).mono ?_
          rintro e x1 ⟨rfl, hbe⟩
          exact ⟨_, rfl, hK _ _ hbe rfl⟩
        refine Plan.det 9 rfl (Grow.refl) ?_
        apply Exists.intro
        refine ⟨fun vs x hR hF K hK => ?_, ?_⟩
        · have f4 := hF 3 _ _ rfl rfl; have f7 := hF 0 _ _ rfl rfl; clear hF
          go_simp
          exact hK _ _ (Grow.refl _) rfl
        refine Plan.det 10 rfl (Grow.refl) ?_
        apply Exists.intro
        refine ⟨fun vs x hR hF K hK => ?_, ?_⟩
        · have f7 := hF 1 _ _ rfl rfl; have f8 := hF 0 _ _ rfl rfl; clear hF
          go_simp
          exact hK _ _ (Grow.refl _) rfl
        refine Plan.det 11 rfl (Grow.refl) ?_
        apply Exists.intro
        refine ⟨fun vs x hR hF K hK => ?_, ?_⟩
        · have f9 := hF 0 _ _ rfl rfl; clear hF
          go_simp
          refine (HAW.out x).mono ?_
          rintro e x1 ⟨rfl, hbe⟩
          exact ⟨_, rfl, hK _ _ hbe rfl⟩
        refine Plan.det 12 rfl (Grow.refl) ?_
        apply Exists.intro
        refine ⟨fun vs x hR hF K hK => ?_, ?_⟩
        · have f9 := hF 1 _ _ rfl rfl; have f10 := hF 0 _ _ rfl rfl; clear hF
          go_simp
          exact hK _ _ (Grow.refl _) rfl
        refine Plan.nil (fun vs x hR hF => ?_)
        have f0 := hF 11 _ _ rfl; have f1 := hF 10 _ _ rfl; have f2 := hF 9 _ _ rfl; have f3 := hF 8 _ _ rfl; have f4 := hF 7 _ _ rfl; have f5 := hF 6 _ _ rfl; have f6 := hF 5 _ _ rfl; have f7 := hF 4 _ _ rfl; have f8 := hF 3 _ _ rfl; have f9 := hF 2 _ _ rfl; have f10 := hF 1 _ _ rfl; have f11 := hF 0 _ _ rfl
        clear hF
        simp only [f0, f1, f2, f3, f4, f5, f6, f7, f8, f9, f10, f11]
        clear f0 f1 f2 f3 f4 f5 f6 f7 f8 f9 f10 f11
        simp only [List.drop_succ_cons, List.drop_zero]
        have HBE := hid (HBZ.out x hR)
        clear HC hR
        go_wp2_with fail
        all_goals (try go_ret)
        all_goals exact ⟨ret_bool (by simpa using dT), HBE.out⟩
end Go.Proofs.YtjjhdddlbgdkeaaDoor
