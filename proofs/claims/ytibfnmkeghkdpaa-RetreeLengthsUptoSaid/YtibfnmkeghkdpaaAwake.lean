/- The law's first example: awake answers true. -/
import Derived.Test.YtibfnmkeghkdpaaMake
namespace Go.Proofs.Ytibfnmkeghkdpaa
open Go.RowKit
attribute [local go_sem] gives givesUpon

theorem E0_exp : E0.expandR.2 = 0 := by decide
theorem E0_exps : E0.expandR.1.size = 19 := by decide
theorem E0_star : (E0.rept 0 (-1)).facts.null = true := by decide
theorem E0_range : (E0.rept 2 1).err = 2 := by decide
theorem E0_size : E0.size = 8 := by decide
theorem E0_groups : E0.groups = 0 := by decide
theorem E0_backs : decide (0 < E0.backs) = false := by decide
def op1 (o : Int) : Re := .mk (Pay.of o) []
theorem op1_in (o : Int) (h : -64 ≤ o ∧ o ≤ 64) (w : World) : (op1 o).In w [.int .i64 o, .int .u64 0, .int .u64 0, .int .u64 0, .int .u64 0, .int .i64 0, .int .i64 0, .int .i64 0, .slice none 0 0] := ((OwnRes.nil w 0 (0 ≤ ·)).node (fun _k hk => hk) (Pay.of o) (Pay.of_wf (I64_of h))).self

/-- What lasts: the example's tree, in its block B. -/
def Aw (w : World) (B : Nat) (cs : List Value) (x : World) : Prop := E0.In x cs ∧ Row x B cs 28 ∧ Below w.heap.size w x
theorem Aw.later {w : World} {B : Nat} {cs : List Value} {x y : World} (h : Aw w B cs x) (hb : Below x.heap.size x y) : Aw w B cs y := ⟨h.1.below hb, h.2.1.below hb h.2.1.lt, h.2.2.trans (hb.mono h.2.2.size)⟩
/-- What lasts behind Expand: the expanded tree, too, in its block D. -/
def Aws (w : World) (B D : Nat) (cs xs : List Value) (x : World) : Prop := Aw w B cs x ∧ Row x D xs 28 ∧ E0.expandR.1.In x xs
theorem Aws.later {w : World} {B D : Nat} {cs xs : List Value} {x y : World} (h : Aws w B D cs xs x) (hb : Below x.heap.size x y) : Aws w B D cs xs y := ⟨h.1.later hb, h.2.1.below hb h.2.1.lt, h.2.2.below hb⟩
theorem Length_E0 {x : World} {cs : List Value} (h : E0.In x cs) : Calls Try.prog 19 #[.agg cs.toArray] x fun e w' => e = .returned (.tuple #[.int .i64 3, .int .i64 7]) ∧ Below x.heap.size x w' := by
  have := Length_any E0 x cs h (by decide)
  rw [E0_facts] at this
  exact this
theorem First_E0 {x : World} {cs : List Value} (h : E0.In x cs) : Calls Try.prog 21 #[.agg cs.toArray] x fun e w' => e = .returned (.tuple #[.agg #[.int .u64 (Cs.of [97]).a, .int .u64 (Cs.of [97]).b, .int .u64 (Cs.of [97]).c, .int .u64 (Cs.of [97]).d], .bool false]) ∧ Below x.heap.size x w' := by
  have := First_any E0 x cs h (by decide)
  rw [E0_facts] at this
  exact this
theorem Expand_E0 {x : World} {cs : List Value} (h : E0.In x cs) : Calls Try.prog 25 #[.agg cs.toArray] x fun e w' => ∃ cs', e = .returned (.tuple #[.agg cs'.toArray, .int .i64 0]) ∧ E0.expandR.1.In w' cs' ∧ Below x.heap.size x w' := by
  have := Expand_any E0 x cs h (by decide)
  rw [E0_exp] at this
  exact this
theorem Of_a (x : World) : Calls Try.prog 41 #[.string ⟨#[97]⟩] x fun e w' => e = .returned (.agg #[.int .u64 (Cs.of [97]).a, .int .u64 (Cs.of [97]).b, .int .u64 (Cs.of [97]).c, .int .u64 (Cs.of [97]).d]) ∧ Below x.heap.size x w' := Of_any ⟨#[97]⟩ x (by decide)
theorem Nullable_E0 {x : World} {cs : List Value} (h : E0.In x cs) : Calls Try.prog 23 #[.agg cs.toArray] x fun e w' => e = .returned (.bool false) ∧ Below x.heap.size x w' := by
  have := Nullable_any E0 x cs h (by decide)
  rw [E0_facts] at this
  exact this
theorem Nullable_star {x : World} {cs : List Value} (h : (E0.rept 0 (-1)).In x cs) : Calls Try.prog 23 #[.agg cs.toArray] x fun e w' => e = .returned (.bool true) ∧ Below x.heap.size x w' := by
  have := Nullable_any _ x cs h (by decide)
  rw [E0_star] at this
  exact this
theorem Check_E0 {x : World} {cs : List Value} (h : E0.In x cs) : Calls Try.prog 10 #[.agg cs.toArray] x fun e w' => e = .returned (.int .i64 0) ∧ Below x.heap.size x w' := by
  have := Check_any _ x cs h (by decide)
  rw [E0_err] at this
  exact this
theorem Check_range {x : World} {cs : List Value} (h : (E0.rept 2 1).In x cs) : Calls Try.prog 10 #[.agg cs.toArray] x fun e w' => e = .returned (.int .i64 2) ∧ Below x.heap.size x w' := by
  have := Check_any _ x cs h (by decide)
  rw [E0_range] at this
  exact this
theorem Size_E0 {x : World} {cs : List Value} (h : E0.In x cs) : Calls Try.prog 13 #[.agg cs.toArray] x fun e w' => e = .returned (.int .i64 8) ∧ Below x.heap.size x w' := by
  have := Size_any _ x cs h (by decide)
  rw [E0_size] at this
  exact this
theorem Size_X {x : World} {cs : List Value} (h : E0.expandR.1.In x cs) : Calls Try.prog 13 #[.agg cs.toArray] x fun e w' => e = .returned (.int .i64 19) ∧ Below x.heap.size x w' := by
  have := Size_any _ x cs h (by rw [E0_exps]; decide)
  rw [E0_exps] at this
  exact this
theorem Groups_E0 {x : World} {cs : List Value} (h : E0.In x cs) : Calls Try.prog 15 #[.agg cs.toArray] x fun e w' => e = .returned (.int .i64 0) ∧ Below x.heap.size x w' := by
  have := Groups_any _ x cs h (by decide)
  rw [E0_groups] at this
  exact this
theorem Back_E0 {x : World} {cs : List Value} (h : E0.In x cs) : Calls Try.prog 17 #[.agg cs.toArray] x fun e w' => e = .returned (.bool false) ∧ Below x.heap.size x w' := by
  have := Back_any _ x cs h (by decide)
  rw [E0_backs] at this
  exact this
theorem Back_nine (x : World) : Calls Try.prog 17 #[.agg #[.int .i64 9, .int .u64 0, .int .u64 0, .int .u64 0, .int .u64 0, .int .i64 0, .int .i64 0, .int .i64 0, .slice none 0 0]] x fun e w' => e = .returned (.bool true) ∧ Below x.heap.size x w' := Back_any (op1 9) x _ (op1_in 9 (by omega) x) (by decide)
theorem Groups_six (x : World) : Calls Try.prog 15 #[.agg #[.int .i64 6, .int .u64 0, .int .u64 0, .int .u64 0, .int .u64 0, .int .i64 0, .int .i64 0, .int .i64 0, .slice none 0 0]] x fun e w' => e = .returned (.int .i64 1) ∧ Below x.heap.size x w' := Groups_any (op1 6) x _ (op1_in 6 (by omega) x) (by decide)
theorem eq_a (x : World) : (Op.equalIn 10000 25 (.agg #[.int .u64 (Cs.of [97]).a, .int .u64 (Cs.of [97]).b, .int .u64 (Cs.of [97]).c, .int .u64 (Cs.of [97]).d]) (.agg #[.int .u64 (Cs.of [97]).a, .int .u64 (Cs.of [97]).b, .int .u64 (Cs.of [97]).c, .int .u64 (Cs.of [97]).d])).run Try.prog x = .ok true x := by
  rw [run_eqIn_cs]; simp

-- def P9 := [.int .i64 p.op, .int .u64 p.set.a, .int .u64 p.set.b, .int .u64 p.set.c, .int .u64 p.set.d, .int .i64 p.lo, .int .i64 p.hi, .int .i64 p.gr, .slice ad m cap]
set_option maxRecDepth 100000 in
set_option maxHeartbeats 4000000 in
theorem awake_any (w : World) : Calls Try.prog 12 #[] w fun e w' => e = .returned (.bool true) ∧ Below w.heap.size w w' := by
  go_enter Try.func12, Try.ntmps12
  go_wp2_with fail
  refine (Byte_any 97 _).mono ?_
  rintro e w1 ⟨rfl, hb1⟩
  go_wp2_with fail
  refine (Byte_any 98 _).mono ?_
  rintro e w2 ⟨rfl, hb2⟩
  go_wp2_with fail
  refine (Byte_any 99 _).mono ?_
  rintro e w3 ⟨rfl, hb3⟩
  go_wp2_with fail
  refine (Byte_any 100 _).mono ?_
  rintro e w4 ⟨rfl, hb4⟩
  have HB4 : Hid (Below w.heap.size w w4) := ((hb1.trans (hb2.mono hb1.size)).trans (hb3.mono (hb1.trans (hb2.mono hb1.size)).size)).trans (hb4.mono ((hb1.trans (hb2.mono hb1.size)).trans (hb3.mono (hb1.trans (hb2.mono hb1.size)).size)).size)
  clear hb1 hb2 hb3 hb4
  go_wp2_with fail
  refine (Node_any 3 _ _ _ _).mono ?_
  rintro e w5 ⟨rfl, hb5⟩
  have hr5 := (Row.new (w := w4) (B := w4.heap.size) (T := 28) (cs := [.int .i64 2, .int .u64 (Cs.of [99]).a, .int .u64 (Cs.of [99]).b, .int .u64 (Cs.of [99]).c, .int .u64 (Cs.of [99]).d, .int .i64 0, .int .i64 0, .int .i64 0, .slice none 0 0] ++ [.int .i64 2, .int .u64 (Cs.of [100]).a, .int .u64 (Cs.of [100]).b, .int .u64 (Cs.of [100]).c, .int .u64 (Cs.of [100]).d, .int .i64 0, .int .i64 0, .int .i64 0, .slice none 0 0]) rfl).below hb5 (by simp)
  have HT5 : Hid ((Re.mk (Pay.of 3) [byteRe 99, byteRe 100]).In w5 [.int .i64 3, .int .u64 0, .int .u64 0, .int .u64 0, .int .u64 0, .int .i64 0, .int .i64 0, .int .i64 0, .slice (some ⟨w4.heap.size, 0, none⟩) 2 2]) := node2_in (Pay.of_wf (I64_of (by omega))) hr5 (byte_in 99 w5) (byte_in 100 w5) rfl
  have HB5 : Hid (Below w.heap.size w w5) := (HB4.out.alloc HB4.out.size _).trans (hb5.mono (by have := HB4.out.size; simp; omega))
  clear hb5 hr5
  go_wp2_with fail
  refine (Node_any 4 _ _ _ _).mono ?_
  rintro e w6 ⟨rfl, hb6⟩
  have hr6 := (Row.new (w := w5) (B := w5.heap.size) (T := 28) (cs := [.int .i64 2, .int .u64 (Cs.of [98]).a, .int .u64 (Cs.of [98]).b, .int .u64 (Cs.of [98]).c, .int .u64 (Cs.of [98]).d, .int .i64 0, .int .i64 0, .int .i64 0, .slice none 0 0] ++ [.int .i64 3, .int .u64 0, .int .u64 0, .int .u64 0, .int .u64 0, .int .i64 0, .int .i64 0, .int .i64 0, .slice (some ⟨w4.heap.size, 0, none⟩) 2 2]) rfl).below hb6 (by simp)
  have HT6 : Hid ((Re.mk (Pay.of 4) [byteRe 98, Re.mk (Pay.of 3) [byteRe 99, byteRe 100]]).In w6 [.int .i64 4, .int .u64 0, .int .u64 0, .int .u64 0, .int .u64 0, .int .i64 0, .int .i64 0, .int .i64 0, .slice (some ⟨w5.heap.size, 0, none⟩) 2 2]) := node2_in (Pay.of_wf (I64_of (by omega))) hr6 (byte_in 98 w6) ((HT5.out.below ((Below.refl _ w5).alloc (Nat.le_refl _) _)).below hb6) rfl
  have HB6 : Hid (Below w.heap.size w w6) := (HB5.out.alloc HB5.out.size _).trans (hb6.mono (by have := HB5.out.size; simp; omega))
  clear hb6 hr6
  go_wp2_with fail
  refine (Rep_any _ 2 3 _ _ HT6.out (by omega) (by omega)).mono ?_
  rintro e w7 ⟨cs7, rfl, hin7, hb7⟩
  obtain ⟨p, ad, m, cap, rfl⟩ := Re.cells_shape hin7
  have HT7 := hid hin7
  have HB7 : Hid (Below w.heap.size w w7) := HB6.out.trans (hb7.mono HB6.out.size)
  clear hin7 hb7
  go_wp2_with fail
  refine (Node_any 3 _ _ _ _).mono ?_
  rintro e w8 ⟨rfl, hb8⟩
  have hr8 := (Row.new (w := w7) (B := w7.heap.size) (T := 28) (cs := [.int .i64 2, .int .u64 (Cs.of [97]).a, .int .u64 (Cs.of [97]).b, .int .u64 (Cs.of [97]).c, .int .u64 (Cs.of [97]).d, .int .i64 0, .int .i64 0, .int .i64 0, .slice none 0 0] ++ [.int .i64 p.op, .int .u64 p.set.a, .int .u64 p.set.b, .int .u64 p.set.c, .int .u64 p.set.d, .int .i64 p.lo, .int .i64 p.hi, .int .i64 p.gr, .slice ad m cap]) rfl).below hb8 (by simp)
  have HT8 : Hid (E0.In w8 [.int .i64 3, .int .u64 0, .int .u64 0, .int .u64 0, .int .u64 0, .int .i64 0, .int .i64 0, .int .i64 0, .slice (some ⟨w7.heap.size, 0, none⟩) 2 2]) := node2_in (Pay.of_wf (I64_of (by omega))) hr8 (byte_in 97 w8) ((HT7.out.below ((Below.refl _ w7).alloc (Nat.le_refl _) _)).below hb8) rfl
  have HB8 : Hid (Below w.heap.size w w8) := (HB7.out.alloc HB7.out.size _).trans (hb8.mono (by have := HB7.out.size; simp; omega))
  clear hb8 hr8 HB4 HB5 HB6 HB7 HT5 HT6 HT7
  generalize w7.heap.size = B7 at *
  have HA : Hid (Aw w w8.heap.size [.int .i64 3, .int .u64 0, .int .u64 0, .int .u64 0, .int .u64 0, .int .i64 0, .int .i64 0, .int .i64 0, .slice (some ⟨B7, 0, none⟩) 2 2] (w8.alloc (.cells #[.int .i64 3, .int .u64 0, .int .u64 0, .int .u64 0, .int .u64 0, .int .i64 0, .int .i64 0, .int .i64 0, .slice (some ⟨B7, 0, none⟩) 2 2] 28))) := ⟨HT8.out.below ((Below.refl _ w8).alloc (Nat.le_refl _) _), Row.new (cs := [.int .i64 3, .int .u64 0, .int .u64 0, .int .u64 0, .int .u64 0, .int .i64 0, .int .i64 0, .int .i64 0, .slice (some ⟨B7, 0, none⟩) 2 2]) rfl, HB8.out.alloc HB8.out.size _⟩
  go_wp2_with fail
  refine (Length_E0 HA.out.1).mono ?_
  rintro e w9 ⟨rfl, hb9⟩
  have HA9 := hid (HA.out.later hb9)
  have q9 := HA9.out.2.1.c9
  have z9 := HA9.out.2.1.lt
  clear hb9 HA HT8 HB8
  generalize w8.heap.size = B at *
  go_wp2_with fail
  refine (First_E0 HA9.out.1).mono ?_
  rintro e wa ⟨rfl, hba⟩
  have HAa := hid (HA9.out.later hba)
  have qa := HAa.out.2.1.c9
  have za := HAa.out.2.1.lt
  clear hba q9 z9 HA9
  go_wp2_with fail
  have hra := Row.new (w := wa) (B := wa.heap.size) (cs := [.int .u64 (Cs.of [97]).a, .int .u64 (Cs.of [97]).b, .int .u64 (Cs.of [97]).c, .int .u64 (Cs.of [97]).d]) (T := 25) rfl
  have hAa2 := HAa.out.later ((Below.refl _ wa).alloc (Nat.le_refl _) (.cells #[.int .u64 (Cs.of [97]).a, .int .u64 (Cs.of [97]).b, .int .u64 (Cs.of [97]).c, .int .u64 (Cs.of [97]).d] 25))
  refine (Expand_E0 hAa2.1).mono ?_
  rintro e wb ⟨csb, rfl, hinb, hbb⟩
  obtain ⟨pb, adb, mb, capb, rfl⟩ := Re.cells_shape hinb
  have HAb := hid (hAa2.later hbb)
  have HRb := hid (hra.below hbb (by simp))
  have HIb := hid hinb
  have qb := HAb.out.2.1.c9
  have zb := HAb.out.2.1.lt
  have zs := HRb.out.lt
  clear hbb qa za HAa hra hAa2 hinb
  generalize wa.heap.size = C at *
  go_wp2_with fail
  have HR6 := hid (Row.new (w := wb) (B := wb.heap.size) (cs := [.int .i64 pb.op, .int .u64 pb.set.a, .int .u64 pb.set.b, .int .u64 pb.set.c, .int .u64 pb.set.d, .int .i64 pb.lo, .int .i64 pb.hi, .int .i64 pb.gr, .slice adb mb capb]) (T := 28) rfl)
  have hgb := (Below.refl wb.heap.size wb).alloc (Nat.le_refl _) (.cells #[.int .i64 pb.op, .int .u64 pb.set.a, .int .u64 pb.set.b, .int .u64 pb.set.c, .int .u64 pb.set.d, .int .i64 pb.lo, .int .i64 pb.hi, .int .i64 pb.gr, .slice adb mb capb] 28)
  have HAc := hid (HAb.out.later hgb)
  have HRc := hid (HRb.out.below hgb HRb.out.lt)
  have HIc := hid (HIb.out.below hgb)
  have hzc : (wb.alloc (.cells #[.int .i64 pb.op, .int .u64 pb.set.a, .int .u64 pb.set.b, .int .u64 pb.set.c, .int .u64 pb.set.d, .int .i64 pb.lo, .int .i64 pb.hi, .int .i64 pb.gr, .slice adb mb capb] 28)).heap.size = wb.heap.size + 1 := by simp
  have hneq := fun (x : World) => eq_a x
  clear hgb HAb HRb HIb qb zb zs
  generalize wb.alloc (.cells #[.int .i64 pb.op, .int .u64 pb.set.a, .int .u64 pb.set.b, .int .u64 pb.set.c, .int .u64 pb.set.d, .int .i64 pb.lo, .int .i64 pb.hi, .int .i64 pb.gr, .slice adb mb capb] 28) = wc at *
  generalize wb.heap.size = D at *
  have HC := hid (fun (x : World) (hx : Grow wc.drew x) => And.intro ((HAc.out.2.1.drew.below hx HAc.out.2.1.drew.lt).c9) ((HRc.out.drew.below hx HRc.out.drew.lt).c4))
  have HAX := hid (fun (x : World) (hx : Grow wc.drew x) => (HAc.out.later ((Below.refl _ wc).drew.trans hx)))
  refine wp_region_inv 28 (Grow) (by kernel_rfl) (by kernel_rfl) (Grow.refl) (fun _ _ _ => Grow.trans) ?_
  simp only [fill, dstOf, Act.put, List.take_succ_cons, List.take_zero, List.getElem?_toArray, List.getElem?_cons_zero, List.getElem?_cons_succ, Option.bind_some, List.setIfInBounds_toArray, List.set_cons_zero, List.set_cons_succ]
  refine Plan.det 1 rfl (Grow.refl) ?_
  apply Exists.intro
  refine ⟨fun vs x hR hF K hK => ?_, ?_⟩
  · clear hF
    go_simp
    exact hK _ _ (Grow.refl _) rfl
  refine Plan.det 2 rfl (Grow.refl) ?_
  apply Exists.intro
  refine ⟨fun vs x hR hF K hK => ?_, ?_⟩
  · have f0 := hF 0 _ _ rfl rfl; clear hF
    go_simp
    exact hK _ _ (Grow.refl _) rfl
  refine Plan.det 3 rfl (Grow.refl) ?_
  apply Exists.intro
  refine ⟨fun vs x hR hF K hK => ?_, ?_⟩
  · have f1 := hF 0 _ _ rfl rfl; clear hF
    go_simp
    exact hK _ _ (Grow.refl _) rfl
  refine Plan.det 4 rfl (Grow.refl) ?_
  apply Exists.intro
  refine ⟨fun vs x hR hF K hK => ?_, ?_⟩
  · have f2 := hF 0 _ _ rfl rfl; clear hF
    go_simp
    exact hK _ _ (Grow.refl _) rfl
  refine Plan.det 5 rfl (Grow.refl) ?_
  apply Exists.intro
  refine ⟨fun vs x hR hF K hK => ?_, ?_⟩
  · have f2 := hF 1 _ _ rfl rfl; have f3 := hF 0 _ _ rfl rfl; clear hF
    go_simp
    exact hK _ _ (Grow.refl _) rfl
  refine Plan.det 6 rfl (Grow.refl) ?_
  apply Exists.intro
  refine ⟨fun vs x hR hF K hK => ?_, ?_⟩
  · have f2 := hF 2 _ _ rfl rfl; have f4 := hF 0 _ _ rfl rfl; clear hF
    go_simp
    exact hK _ _ (Grow.refl _) rfl
  refine Plan.det 7 rfl (Grow.refl) ?_
  apply Exists.intro
  refine ⟨fun vs x hR hF K hK => ?_, ?_⟩
  · have f2 := hF 3 _ _ rfl rfl; have f5 := hF 0 _ _ rfl rfl; clear hF
    go_simp
    exact hK _ _ (Grow.refl _) rfl
  refine Plan.det 8 rfl (Grow.refl) ?_
  apply Exists.intro
  refine ⟨fun vs x hR hF K hK => ?_, ?_⟩
  · have f6 := hF 0 _ _ rfl rfl; have hc := HC.out x hR; clear hF
    go_simp
    exact hK _ _ (Grow.refl _) rfl
  refine Plan.det 9 rfl (Grow.refl) ?_
  apply Exists.intro
  refine ⟨fun vs x hR hF K hK => ?_, ?_⟩
  · have f6 := hF 1 _ _ rfl rfl; clear hF
    go_simp
    refine (Of_a x).mono ?_
    rintro e x1 ⟨rfl, hbe⟩
    exact ⟨_, rfl, hK _ _ hbe rfl⟩
  refine Plan.det 10 rfl (Grow.refl) ?_
  apply Exists.intro
  refine ⟨fun vs x hR hF K hK => ?_, ?_⟩
  · have f6 := hF 2 _ _ rfl rfl; have f7 := hF 1 _ _ rfl rfl; have f8 := hF 0 _ _ rfl rfl; clear hF
    go_simp
    exact hK _ _ (Grow.refl _) rfl
  refine Plan.det 11 rfl (Grow.refl) ?_
  apply Exists.intro
  refine ⟨fun vs x hR hF K hK => ?_, ?_⟩
  · have f6 := hF 3 _ _ rfl rfl; have f9 := hF 0 _ _ rfl rfl; clear hF
    go_simp
    exact hK _ _ (Grow.refl _) rfl
  refine Plan.det 12 rfl (Grow.refl) ?_
  apply Exists.intro
  refine ⟨fun vs x hR hF K hK => ?_, ?_⟩
  · have f8 := hF 2 _ _ rfl rfl; have f10 := hF 0 _ _ rfl rfl; clear hF
    go_simp
    exact hK _ _ (Grow.refl _) rfl
  refine Plan.det 13 rfl (Grow.refl) ?_
  apply Exists.intro
  refine ⟨fun vs x hR hF K hK => ?_, ?_⟩
  · have f11 := hF 0 _ _ rfl rfl; clear hF
    go_simp
    exact hK _ _ (Grow.refl _) rfl
  refine Plan.det 14 rfl (Grow.refl) ?_
  apply Exists.intro
  refine ⟨fun vs x hR hF K hK => ?_, ?_⟩
  · have f11 := hF 1 _ _ rfl rfl; have f12 := hF 0 _ _ rfl rfl; clear hF
    go_simp
    exact hK _ _ (Grow.refl _) rfl
  refine Plan.det 15 rfl (Grow.refl) ?_
  apply Exists.intro
  refine ⟨fun vs x hR hF K hK => ?_, ?_⟩
  · have f11 := hF 2 _ _ rfl rfl; have f13 := hF 0 _ _ rfl rfl; clear hF
    go_simp
    exact hK _ _ (Grow.refl _) rfl
  refine Plan.det 16 rfl (Grow.refl) ?_
  apply Exists.intro
  refine ⟨fun vs x hR hF K hK => ?_, ?_⟩
  · have f14 := hF 0 _ _ rfl rfl; have hc := HC.out x hR; clear hF
    go_simp
    exact hK _ _ (Grow.refl _) rfl
  refine Plan.det 17 rfl (Grow.refl) ?_
  apply Exists.intro
  refine ⟨fun vs x hR hF K hK => ?_, ?_⟩
  · have f14 := hF 1 _ _ rfl rfl; have f15 := hF 0 _ _ rfl rfl; clear hF
    go_simp
    refine (Nullable_E0 (HAX.out x hR).1).mono ?_
    rintro e x1 ⟨rfl, hbe⟩
    exact ⟨_, rfl, hK _ _ hbe rfl⟩
  refine Plan.det 18 rfl (Grow.refl) ?_
  apply Exists.intro
  refine ⟨fun vs x hR hF K hK => ?_, ?_⟩
  · have f14 := hF 2 _ _ rfl rfl; have f16 := hF 0 _ _ rfl rfl; clear hF
    go_simp
    exact hK _ _ (Grow.refl _) rfl
  refine Plan.det 19 rfl (Grow.refl) ?_
  apply Exists.intro
  refine ⟨fun vs x hR hF K hK => ?_, ?_⟩
  · have f16 := hF 1 _ _ rfl rfl; have f17 := hF 0 _ _ rfl rfl; clear hF
    go_simp
    exact hK _ _ (Grow.refl _) rfl
  refine Plan.det 20 rfl (Grow.refl) ?_
  apply Exists.intro
  refine ⟨fun vs x hR hF K hK => ?_, ?_⟩
  · have f18 := hF 0 _ _ rfl rfl; clear hF
    go_simp
    exact hK _ _ (Grow.refl _) rfl
  refine Plan.det 21 rfl (Grow.refl) ?_
  apply Exists.intro
  refine ⟨fun vs x hR hF K hK => ?_, ?_⟩
  · have f18 := hF 1 _ _ rfl rfl; have f19 := hF 0 _ _ rfl rfl; clear hF
    go_simp
    exact hK _ _ (Grow.refl _) rfl
  refine Plan.det 22 rfl (Grow.refl) ?_
  apply Exists.intro
  refine ⟨fun vs x hR hF K hK => ?_, ?_⟩
  · have f18 := hF 2 _ _ rfl rfl; have f20 := hF 0 _ _ rfl rfl; clear hF
    go_simp
    exact hK _ _ (Grow.refl _) rfl
  refine Plan.det 23 rfl (Grow.refl) ?_
  apply Exists.intro
  refine ⟨fun vs x hR hF K hK => ?_, ?_⟩
  · have f18 := hF 3 _ _ rfl rfl; have f21 := hF 0 _ _ rfl rfl; clear hF
    go_simp
    exact hK _ _ (Grow.refl _) rfl
  refine Plan.det 24 rfl (Grow.refl) ?_
  apply Exists.intro
  refine ⟨fun vs x hR hF K hK => ?_, ?_⟩
  · have f22 := hF 0 _ _ rfl rfl; have hc := HC.out x hR; clear hF
    go_simp
    exact hK _ _ (Grow.refl _) rfl
  refine Plan.rel 25 rfl (Grow.refl) (fun v y => ∃ cs' : List Value, v = .agg cs'.toArray ∧ (E0.rept 0 (-1)).In y cs') (fun v a b hR ⟨cs', h1, h2⟩ => ⟨cs', h1, h2.below hR⟩) (fun vs x hR hF K hK => ?_) ?_
  · have f22 := hF 1 _ _ rfl rfl; have f23 := hF 0 _ _ rfl rfl
    go_simp
    refine (Rep_any E0 0 (-1) x _ (HAX.out x hR).1 (by omega) (by omega)).mono ?_
    rintro e x1 ⟨cs', rfl, hin, hbe⟩
    exact ⟨_, rfl, hK _ _ hbe ⟨cs', rfl, hin⟩⟩
  refine Plan.det 26 rfl (Grow.refl) ?_
  apply Exists.intro
  refine ⟨fun vs x hR hF K hK => ?_, ?_⟩
  · have f22 := hF 2 _ _ rfl rfl; have f24 := hF 0 _ _ rfl rfl; clear hF
    obtain ⟨cs', e24, h24⟩ := f24
    obtain ⟨p', ad', m', cap', rfl⟩ := Re.cells_shape h24
    go_simp
    refine (Nullable_star h24).mono ?_
    rintro e x1 ⟨rfl, hbe⟩
    exact ⟨_, rfl, hK _ _ hbe rfl⟩
  refine Plan.det 27 rfl (Grow.refl) ?_
  apply Exists.intro
  refine ⟨fun vs x hR hF K hK => ?_, ?_⟩
  · have f22 := hF 3 _ _ rfl rfl; have f25 := hF 0 _ _ rfl rfl; clear hF
    go_simp
    exact hK _ _ (Grow.refl _) rfl
  refine Plan.det 28 rfl (Grow.refl) ?_
  apply Exists.intro
  refine ⟨fun vs x hR hF K hK => ?_, ?_⟩
  · have f22 := hF 4 _ _ rfl rfl; have f26 := hF 0 _ _ rfl rfl; clear hF
    go_simp
    exact hK _ _ (Grow.refl _) rfl
  refine Plan.nil (fun vs x hR hF => ?_)
  have f0 := hF 27 _ _ rfl; have f1 := hF 26 _ _ rfl; have f2 := hF 25 _ _ rfl; have f3 := hF 24 _ _ rfl; have f4 := hF 23 _ _ rfl; have f5 := hF 22 _ _ rfl; have f6 := hF 21 _ _ rfl; have f7 := hF 20 _ _ rfl; have f8 := hF 19 _ _ rfl; have f9 := hF 18 _ _ rfl; have f10 := hF 17 _ _ rfl; have f11 := hF 16 _ _ rfl; have f12 := hF 15 _ _ rfl; have f13 := hF 14 _ _ rfl; have f14 := hF 13 _ _ rfl; have f15 := hF 12 _ _ rfl; have f16 := hF 11 _ _ rfl; have f17 := hF 10 _ _ rfl; have f18 := hF 9 _ _ rfl; have f19 := hF 8 _ _ rfl; have f20 := hF 7 _ _ rfl; have f21 := hF 6 _ _ rfl; have f22 := hF 5 _ _ rfl; have f23 := hF 4 _ _ rfl; have f24 := hF 3 _ _ rfl; have f25 := hF 2 _ _ rfl; have f26 := hF 1 _ _ rfl; have f27 := hF 0 _ _ rfl
  clear hF
  simp only [f0, f1, f2, f3, f4, f5, f6, f7, f8, f9, f10, f11, f12, f13, f14, f15, f16, f17, f18, f19, f20, f21, f22, f23, f25, f26, f27]
  clear f0 f1 f2 f3 f4 f5 f6 f7 f8 f9 f10 f11 f12 f13 f14 f15 f16 f17 f18 f19 f20 f21 f22 f23 f25 f26 f27
  simp only [List.drop_succ_cons, List.drop_zero]
  obtain ⟨cs24, e24, -⟩ := f24
  simp only [e24]
  have HSt : Hid (Aws w B D [.int .i64 3, .int .u64 0, .int .u64 0, .int .u64 0, .int .u64 0, .int .i64 0, .int .i64 0, .int .i64 0, .slice (some ⟨B7, 0, none⟩) 2 2] [.int .i64 pb.op, .int .u64 pb.set.a, .int .u64 pb.set.b, .int .u64 pb.set.c, .int .u64 pb.set.d, .int .i64 pb.lo, .int .i64 pb.hi, .int .i64 pb.gr, .slice adb mb capb] x) := ⟨HAX.out x hR, HR6.out.drew.below hR HR6.out.drew.lt, (HIc.out.below ((Below.refl _ wc).drew)).below hR⟩
  have q0 := HSt.out.1.2.1.c9
  have z0 := HSt.out.1.2.1.lt
  clear hR HC HAX HAc HRc HIc HR6 e24 hneq hzc
  go_wp2_with fail
  refine (Check_E0 HSt.out.1.1).mono ?_
  rintro e y1 ⟨rfl, hb⟩
  have HS1 := hid (HSt.out.later hb)
  have q1 := HS1.out.1.2.1.c9
  have z1 := HS1.out.1.2.1.lt
  have r1 := HS1.out.2.1.c9
  have v1 := HS1.out.2.1.lt
  clear hb q0 z0 HSt
  go_wp2_with fail
  refine (Rep_any E0 2 1 _ _ HS1.out.1.1 (by omega) (by omega)).mono ?_
  rintro e y2 ⟨cs', rfl, hin, hb⟩
  obtain ⟨p2, ad2, m2, cap2, rfl⟩ := Re.cells_shape hin
  have HIN := hid hin
  clear hin
  have HS2 := hid (HS1.out.later hb)
  have q2 := HS2.out.1.2.1.c9
  have z2 := HS2.out.1.2.1.lt
  have r2 := HS2.out.2.1.c9
  have v2 := HS2.out.2.1.lt
  clear hb q1 z1 HS1 r1 v1
  go_wp2_with fail
  refine (Check_range HIN.out).mono ?_
  rintro e y3 ⟨rfl, hb⟩
  have HS3 := hid (HS2.out.later hb)
  have q3 := HS3.out.1.2.1.c9
  have z3 := HS3.out.1.2.1.lt
  have r3 := HS3.out.2.1.c9
  have v3 := HS3.out.2.1.lt
  clear hb q2 z2 HS2 r2 v2
  go_wp2_with fail
  refine (Size_E0 HS3.out.1.1).mono ?_
  rintro e y4 ⟨rfl, hb⟩
  have HS4 := hid (HS3.out.later hb)
  have q4 := HS4.out.1.2.1.c9
  have z4 := HS4.out.1.2.1.lt
  have r4 := HS4.out.2.1.c9
  have v4 := HS4.out.2.1.lt
  clear hb q3 z3 HS3 r3 v3
  go_wp2_with fail
  refine (Size_X HS4.out.2.2).mono ?_
  rintro e y5 ⟨rfl, hb⟩
  have HS5 := hid (HS4.out.later hb)
  have q5 := HS5.out.1.2.1.c9
  have z5 := HS5.out.1.2.1.lt
  have r5 := HS5.out.2.1.c9
  have v5 := HS5.out.2.1.lt
  clear hb q4 z4 HS4 r4 v4
  go_wp2_with fail
  refine (Groups_E0 HS5.out.1.1).mono ?_
  rintro e y6 ⟨rfl, hb⟩
  have HS6 := hid (HS5.out.later hb)
  have q6 := HS6.out.1.2.1.c9
  have z6 := HS6.out.1.2.1.lt
  have r6 := HS6.out.2.1.c9
  have v6 := HS6.out.2.1.lt
  clear hb q5 z5 HS5 r5 v5
  go_wp2_with fail
  refine (Back_E0 HS6.out.1.1).mono ?_
  rintro e y7 ⟨rfl, hb⟩
  have HS7 := hid (HS6.out.later hb)
  have q7 := HS7.out.1.2.1.c9
  have z7 := HS7.out.1.2.1.lt
  have r7 := HS7.out.2.1.c9
  have v7 := HS7.out.2.1.lt
  clear hb q6 z6 HS6 r6 v6
  go_wp2_with fail
  refine (Back_nine _).mono ?_
  rintro e y8 ⟨rfl, hb⟩
  have HS8 := hid (HS7.out.later hb)
  have q8 := HS8.out.1.2.1.c9
  have z8 := HS8.out.1.2.1.lt
  have r8 := HS8.out.2.1.c9
  have v8 := HS8.out.2.1.lt
  clear hb q7 z7 HS7 r7 v7
  go_wp2_with fail
  refine (Groups_six _).mono ?_
  rintro e y9 ⟨rfl, hb⟩
  have HS9 := hid (HS8.out.later hb)
  have q9 := HS9.out.1.2.1.c9
  have z9 := HS9.out.1.2.1.lt
  have r9 := HS9.out.2.1.c9
  have v9 := HS9.out.2.1.lt
  clear hb q8 z8 HS8 r8 v8
  go_wp2_with fail
  all_goals go_ret
  all_goals exact ⟨rfl, HS9.out.1.2.2⟩
end Go.Proofs.Ytibfnmkeghkdpaa
