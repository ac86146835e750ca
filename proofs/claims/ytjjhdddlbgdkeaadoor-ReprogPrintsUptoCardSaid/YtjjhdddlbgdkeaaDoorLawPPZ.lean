/- The law ReprogPrints: its walk answers true. -/
import Derived.Test.YtjjhdddlbgdkeaaDoorG28
import Derived.Test.YtjjhdddlbgdkeaaDoorG30
namespace Go.Proofs.YtjjhdddlbgdkeaaDoor
open Go.RowKit
attribute [local go_sem] gives givesUpon

set_option maxRecDepth 100000 in
set_option maxHeartbeats 8000000 in
theorem LawPrints_any (w : World) (a : Option Addr) (c : Nat) (L : List Inst) (lines : Bool) (h : InsAt w a L) (hwf : ∀ k (h : k < L.length), L[k].set.wf) (hn : L.length ≤ 1048576) (ht : Tabs w) (h8 : 2 ≤ w.heap.size) :
    Calls Tryd.prog 3 #[.agg #[.slice a L.length c, .bool lines]] w fun e w' => e = .returned (.bool true) ∧ Below w.heap.size w w' := by
  have HBX : Hid (Row (w.alloc (.cells #[.slice a L.length c, .bool lines] 24)) w.heap.size [.slice a L.length c, .bool lines] 24) := Row.at w [.slice a L.length c, .bool lines] _
  have HB0 : Hid (Below w.heap.size w (w.alloc (.cells #[.slice a L.length c, .bool lines] 24))) := Grow.alloc w _
  have HI := hid h
  have HWF := hid hwf
  have HT := hid ht
  have HV : ∃ bv : Bool, Hid (∀ x, Below w.heap.size w x → Calls Tryd.prog 5 #[.agg #[.slice a L.length c, .bool lines]] x fun e w' => e = .returned (.bool bv) ∧ Below x.heap.size x w') ∧ Hid (∀ x, Below w.heap.size w x → Calls Tryd.prog 6 #[.agg #[.slice a L.length c, .bool lines]] x fun e w' => e = .returned (.bool bv) ∧ Below x.heap.size x w') := by
    by_cases hr : rightAll L
    · refine ⟨true, fun x hx => (Valid3_any x a c L lines (HI.out.below hx (Nat.le_refl _)) hn).mono ?_, fun x hx => (ValidR_any x a c L lines (HI.out.below hx (Nat.le_refl _)) hn).mono ?_⟩
      all_goals
        rintro e w' ⟨b, rfl, hb, hb2⟩
        obtain rfl : b = true := hb.2 hr
        exact ⟨rfl, hb2⟩
    · refine ⟨false, fun x hx => (Valid3_any x a c L lines (HI.out.below hx (Nat.le_refl _)) hn).mono ?_, fun x hx => (ValidR_any x a c L lines (HI.out.below hx (Nat.le_refl _)) hn).mono ?_⟩
      all_goals
        rintro e w' ⟨b, rfl, hb, hb2⟩
        obtain rfl : b = false := by
          cases b with
          | false => rfl
          | true => exact absurd (hb.1 rfl) hr
        exact ⟨rfl, hb2⟩
  have HP : ∃ T : ByteArray, Hid (∀ x, Below w.heap.size w x → Calls Tryd.prog 7 #[.agg #[.slice a L.length c, .bool lines]] x fun e w' => e = .returned (.string T) ∧ Below x.heap.size x w') ∧ Hid (∀ x, Below w.heap.size w x → Calls Tryd.prog 8 #[.agg #[.slice a L.length c, .bool lines]] x fun e w' => e = .returned (.string T) ∧ Below x.heap.size x w') := by
    have HH : ∃ t, PrIs L lines t := by
      by_cases hr : rightAll L
      · exact ⟨_, .inl ⟨hr, rfl⟩⟩
      · exact ⟨_, .inr ⟨hr, rfl⟩⟩
    obtain ⟨t, htt⟩ := HH
    refine ⟨bs t, fun x hx => (Print_any x a c L lines (HI.out.below hx (Nat.le_refl _)) HWF.out hn (HT.out.below hx h8) (Nat.le_trans h8 hx.size)).mono ?_, fun x hx => (PrintR_any x a c L lines (HI.out.below hx (Nat.le_refl _)) HWF.out hn).mono ?_⟩
    all_goals
      rintro e w' ⟨hb2, t', rfl, ht'⟩
      obtain rfl := PrIs.unique htt ht'
      exact ⟨rfl, hb2⟩
  clear h hwf ht HI HWF HT
  obtain ⟨bv, HV1, HV2⟩ := HV
  obtain ⟨T, HP1, HP2⟩ := HP
  go_enter Tryd.func3, Tryd.ntmps3
  go_upto_region 1 with fail
  generalize w.alloc (.cells #[.slice a L.length c, .bool lines] 24) = y at *
  have HBY := hid (fun (x : World) (hx : Grow y x) => (show Below w.heap.size w x from HB0.out.trans ((show Below y.heap.size y x from ⟨hx.os, hx.tape, hx.output, hx.size, hx.block⟩).mono HB0.out.size)))
  have HC := hid (fun (x : World) (hx : Grow y.drew x) => (show x.cell? ⟨w.heap.size, 0, none⟩ = some (.slice a L.length c) ∧ x.cell? ⟨w.heap.size, 1, none⟩ = some (.bool lines) from by
      have h := HBX.out.below (show Below y.heap.size y x from ⟨hx.os, hx.tape, hx.output, hx.size, hx.block⟩) HBX.out.lt
      exact ⟨h.cell 0, h.cell 1⟩))
  generalize hb0 : w.heap.size = b0 at HC
  have HB0E := hid hb0
  clear hb0
  have HBZ := hid (fun (x : World) (hx : Grow y.drew x) => HBY.out x ⟨hx.os, hx.tape, hx.output, hx.size, hx.block⟩)
  have HAW := hid (fun (x : World) => awake_any x)
  refine wp_region_inv 15 (Grow) (by kernel_rfl) (by kernel_rfl) (Grow.refl) (fun _ _ _ => Grow.trans) ?_
  simp only [fill, dstOf, Act.put, List.take_succ_cons, List.take_zero, List.getElem?_toArray, List.getElem?_cons_zero, List.getElem?_cons_succ, Option.bind_some, List.setIfInBounds_toArray, List.set_cons_zero, List.set_cons_succ]
  refine Plan.det 1 rfl (Grow.refl) ?_
  apply Exists.intro
  refine ⟨fun vs x hR hF K hK => ?_, ?_⟩
  · have hc := HC.out x hR; clear hF
    go_simp
    exact hK _ _ (Grow.refl _) rfl
  refine Plan.det 2 rfl (Grow.refl) ?_
  apply Exists.intro
  refine ⟨fun vs x hR hF K hK => ?_, ?_⟩
  · have f0 := hF 0 _ _ rfl rfl; clear hF
    go_simp
    refine (HV1.out x (HBZ.out x hR)).mono ?_
    rintro e x1 ⟨rfl, hbe⟩
    exact ⟨_, rfl, hK _ _ hbe rfl⟩
  refine Plan.det 3 rfl (Grow.refl) ?_
  apply Exists.intro
  refine ⟨fun vs x hR hF K hK => ?_, ?_⟩
  · have hc := HC.out x hR; clear hF
    go_simp
    exact hK _ _ (Grow.refl _) rfl
  refine Plan.det 4 rfl (Grow.refl) ?_
  apply Exists.intro
  refine ⟨fun vs x hR hF K hK => ?_, ?_⟩
  · have f1 := hF 1 _ _ rfl rfl; have f2 := hF 0 _ _ rfl rfl; clear hF
    go_simp
    refine (HV2.out x (HBZ.out x hR)).mono ?_
    rintro e x1 ⟨rfl, hbe⟩
    exact ⟨_, rfl, hK _ _ hbe rfl⟩
  refine Plan.det 5 rfl (Grow.refl) ?_
  apply Exists.intro
  refine ⟨fun vs x hR hF K hK => ?_, ?_⟩
  · have f1 := hF 2 _ _ rfl rfl; have f3 := hF 0 _ _ rfl rfl; clear hF
    go_simp
    exact hK _ _ (Grow.refl _) rfl
  refine Plan.det 6 rfl (Grow.refl) ?_
  apply Exists.intro
  refine ⟨fun vs x hR hF K hK => ?_, ?_⟩
  · have f3 := hF 1 _ _ rfl rfl; have f4 := hF 0 _ _ rfl rfl; clear hF
    go_simp
    exact hK _ _ (Grow.refl _) rfl
  refine Plan.det 7 rfl (Grow.refl) ?_
  apply Exists.intro
  refine ⟨fun vs x hR hF K hK => ?_, ?_⟩
  · have f5 := hF 0 _ _ rfl rfl; have hc := HC.out x hR; clear hF
    go_simp
    exact hK _ _ (Grow.refl _) rfl
  refine Plan.det 8 rfl (Grow.refl) ?_
  apply Exists.intro
  refine ⟨fun vs x hR hF K hK => ?_, ?_⟩
  · have f5 := hF 1 _ _ rfl rfl; have f6 := hF 0 _ _ rfl rfl; clear hF
    go_simp
    refine (HP1.out x (HBZ.out x hR)).mono ?_
    rintro e x1 ⟨rfl, hbe⟩
    exact ⟨_, rfl, hK _ _ hbe rfl⟩
  refine Plan.det 9 rfl (Grow.refl) ?_
  apply Exists.intro
  refine ⟨fun vs x hR hF K hK => ?_, ?_⟩
  · have f5 := hF 2 _ _ rfl rfl; have hc := HC.out x hR; clear hF
    go_simp
    exact hK _ _ (Grow.refl _) rfl
  refine Plan.det 10 rfl (Grow.refl) ?_
  apply Exists.intro
  refine ⟨fun vs x hR hF K hK => ?_, ?_⟩
  · have f5 := hF 3 _ _ rfl rfl; have f7 := hF 1 _ _ rfl rfl; have f8 := hF 0 _ _ rfl rfl; clear hF
    go_simp
    refine (HP2.out x (HBZ.out x hR)).mono ?_
    rintro e x1 ⟨rfl, hbe⟩
    exact ⟨_, rfl, hK _ _ hbe rfl⟩
  refine Plan.det 11 rfl (Grow.refl) ?_
  apply Exists.intro
  refine ⟨fun vs x hR hF K hK => ?_, ?_⟩
  · have f5 := hF 4 _ _ rfl rfl; have f7 := hF 2 _ _ rfl rfl; have f9 := hF 0 _ _ rfl rfl; clear hF
    go_simp
    exact hK _ _ (Grow.refl _) rfl
  refine Plan.det 12 rfl (Grow.refl) ?_
  apply Exists.intro
  refine ⟨fun vs x hR hF K hK => ?_, ?_⟩
  · have f5 := hF 5 _ _ rfl rfl; have f10 := hF 0 _ _ rfl rfl; clear hF
    go_simp
    exact hK _ _ (Grow.refl _) rfl
  refine Plan.det 13 rfl (Grow.refl) ?_
  apply Exists.intro
  refine ⟨fun vs x hR hF K hK => ?_, ?_⟩
  · have f9 := hF 2 _ _ rfl rfl; have f11 := hF 0 _ _ rfl rfl; clear hF
    go_simp
    exact hK _ _ (Grow.refl _) rfl
  refine Plan.det 14 rfl (Grow.refl) ?_
  apply Exists.intro
  refine ⟨fun vs x hR hF K hK => ?_, ?_⟩
  · have f12 := hF 0 _ _ rfl rfl; clear hF
    go_simp
    refine (HAW.out x).mono ?_
    rintro e x1 ⟨rfl, hbe⟩
    exact ⟨_, rfl, hK _ _ hbe rfl⟩
  refine Plan.det 15 rfl (Grow.refl) ?_
  apply Exists.intro
  refine ⟨fun vs x hR hF K hK => ?_, ?_⟩
  · have f12 := hF 1 _ _ rfl rfl; have f13 := hF 0 _ _ rfl rfl; clear hF
    go_simp
    exact hK _ _ (Grow.refl _) rfl
  refine Plan.nil (fun vs x hR hF => ?_)
  have f0 := hF 14 _ _ rfl; have f1 := hF 13 _ _ rfl; have f2 := hF 12 _ _ rfl; have f3 := hF 11 _ _ rfl; have f4 := hF 10 _ _ rfl; have f5 := hF 9 _ _ rfl; have f6 := hF 8 _ _ rfl; have f7 := hF 7 _ _ rfl; have f8 := hF 6 _ _ rfl; have f9 := hF 5 _ _ rfl; have f10 := hF 4 _ _ rfl; have f11 := hF 3 _ _ rfl; have f12 := hF 2 _ _ rfl; have f13 := hF 1 _ _ rfl; have f14 := hF 0 _ _ rfl
  clear hF
  simp only [f0, f1, f2, f3, f4, f5, f6, f7, f8, f9, f10, f11, f12, f13, f14]
  clear f0 f1 f2 f3 f4 f5 f6 f7 f8 f9 f10 f11 f12 f13 f14
  simp only [List.drop_succ_cons, List.drop_zero]
  have HBE := hid (HBZ.out x hR)
  clear HC hR
  go_wp2_with fail
  all_goals (try go_ret)
  all_goals exact ⟨rfl, HBE.out⟩
end Go.Proofs.YtjjhdddlbgdkeaaDoor
