/- The reference's Print. -/
import Derived.Test.YtjjhdddlbgdkeaaDoorG25
namespace Go.Proofs.YtjjhdddlbgdkeaaDoor
open Go.RowKit
attribute [local go_sem] gives givesUpon

theorem lineOf_len (f : Inst) (n k : Nat) (hr : f.right n k) (hn : n ≤ 4096) (hk : k < n) : (lineOf k f).length ≤ 4016 := by
  unfold lineOf
  have h1 := restOf_len f n k hr hn
  have h2 := wordOf_len f.op
  have h3 := dec_len (n := k) (by omega)
  simp only [List.length_append, List.length_cons, List.length_nil]
  omega
theorem ptext_next {L : List Inst} {k : Nat} (h : k < L.length) : ptext L (k + 1) = ptext L k ++ lineOf k L[k] := by
  show ptext L k ++ lineOf k (L.getD k (Inst.of 0)) = _
  rw [List.getD_eq_getElem?_getD, List.getElem?_eq_getElem h]
  rfl
/-- What Print answers. -/
def PrIs (L : List Inst) (lines : Bool) (t : List UInt8) : Prop := (rightAll L ∧ t = progText L lines) ∨ (¬ rightAll L ∧ t = [])
theorem PrIs.unique {L : List Inst} {lines : Bool} {t t' : List UInt8} (h : PrIs L lines t) (h' : PrIs L lines t') : t = t' := by
  rcases h with ⟨h1, rfl⟩ | ⟨h1, rfl⟩ <;> rcases h' with ⟨k1, rfl⟩ | ⟨k1, rfl⟩
  · rfl
  · exact absurd h1 k1
  · exact absurd k1 h1
  · rfl
def PrPost (L : List Inst) (lines : Bool) (w : World) (e : Ending) (w' : World) : Prop := Below w.heap.size w w' ∧ ∃ t, e = .returned (.string (bs t)) ∧ PrIs L lines t
set_option maxRecDepth 100000 in
set_option maxHeartbeats 8000000 in
theorem PrintR_any (w : World) (a : Option Addr) (c : Nat) (L : List Inst) (lines : Bool) (h : InsAt w a L) (hwf : ∀ k (h : k < L.length), L[k].set.wf) (hn : L.length ≤ 1048576) :
    Calls Tryd.prog 8 #[.agg #[.slice a L.length c, .bool lines]] w (PrPost L lines w) := by
  have HPN : Hid (∀ w', Below w.heap.size w w' → ¬ rightAll L → PrPost L lines w (.returned (.string ⟨#[]⟩)) w') := fun w' h1 h2 => ⟨h1, [], rfl, .inr ⟨h2, rfl⟩⟩
  have HPY : Hid (∀ w' t, Below w.heap.size w w' → rightAll L → t = progText L lines → PrPost L lines w (.returned (.string (bs t))) w') := fun w' t h1 h2 h3 => ⟨h1, t, rfl, .inl ⟨h2, h3⟩⟩
  generalize PrPost L lines w = PP at *
  have HBX : Hid (Row (w.alloc (.cells #[.slice a L.length c, .bool lines] 24)) w.heap.size [.slice a L.length c, .bool lines] 24) := Row.at w [.slice a L.length c, .bool lines] _
  have HB0 : Hid (Below w.heap.size w (w.alloc (.cells #[.slice a L.length c, .bool lines] 24))) := Grow.alloc w _
  have HI1 : Hid (InsAt (w.alloc (.cells #[.slice a L.length c, .bool lines] 24)) a L) := h.below HB0.out (Nat.le_refl _)
  have HWF := hid hwf
  have HVR := hid (ValidR_any (w.alloc (.cells #[.slice a L.length c, .bool lines] 24)) a c L lines HI1.out hn)
  clear h hwf
  go_enter Tryd.func8, Tryd.ntmps8
  go_upto_region 1 with fail
  generalize w.alloc (.cells #[.slice a L.length c, .bool lines] 24) = w1 at *
  have q : w1.cell? ⟨w.heap.size, 0, none⟩ = some (.slice a L.length c) ∧ w1.cell? ⟨w.heap.size, 1, none⟩ = some (.bool lines) := ⟨HBX.out.cell 0, HBX.out.cell 1⟩
  generalize hb0 : w.heap.size = b0 at q HBX
  have HB0E := hid hb0
  clear hb0
  go_wp2_with fail
  refine HVR.out.mono ?_
  rintro e w2 ⟨bv, rfl, hbv, hb2⟩
  have HB2 := hid (HB0.out.trans (hb2.mono HB0.out.size))
  have HBX2 := hid (HBX.out.below hb2 HBX.out.lt)
  have HI2 := hid (HI1.out.below hb2 (Nat.le_refl _))
  have q2 : w2.cell? ⟨b0, 0, none⟩ = some (.slice a L.length c) ∧ w2.cell? ⟨b0, 1, none⟩ = some (.bool lines) := ⟨HBX2.out.cell 0, HBX2.out.cell 1⟩
  clear hb2 q HVR
  cases bv with
  | false =>
    have HNR : Hid (¬ rightAll L) := fun hr => by have := hbv.2 hr; cases this
    go_wp2_with fail
    all_goals (try go_ret)
    all_goals exact HPN.out _ HB2.out HNR.out
  | true =>
  have HRI : Hid (rightAll L) := hbv.1 rfl
  have hL : L.length ≤ 4096 := HRI.out.1.2
  clear hbv
  rcases Bool.eq_false_or_eq_true lines with rfl | rfl
  · go_wp2_with fail
    go_loopw [3, 4] (fun vo vk wr => ∃ (k : Nat) (l : List UInt8), k ≤ L.length ∧ l.length ≤ 6 + 4016 * k ∧ vk = .int .i64 k ∧ vo = .string (bs l) ∧ Hid (l = sLines ++ ptext L k) ∧ Hid (Below w2.heap.size w2 wr)) (fun _ vk _ => L.length - (intOf vk).toNat)
    case atStart => exact ⟨0, sLines, by omega, by decide, rfl, rfl, rfl, Below.refl _ _⟩
    case round =>
      obtain ⟨k, l, hk, hll, rfl, rfl, HL, HW⟩ := hrel
      have HBX3 := hid (HBX2.out.below HW.out HBX2.out.lt)
      have q3 : wr.cell? ⟨b0, 0, none⟩ = some (.slice a L.length c) := HBX3.out.cell 0
      have hbl : (bs l).size ≤ 20000000 := by rw [bs_size]; omega
      rcases Nat.lt_or_ge k L.length with hlt | hge
      · have HRT := HRI.out.2 k hlt
        have HLL := lineOf_len L[k] L.length k HRT hL hlt
        have HWK := HWF.out k hlt
        have HFM := hid (fun (y : World) => FormatR_any k y (by omega))
        have HLN := hid (fun (y : World) => line_any L[k] L.length k y HWK HRT hL)
        have HPT := hid (ptext_next hlt)
        obtain ⟨fb, fo, hfa, hfb, hfc⟩ := (HI2.out.below HW.out (Nat.le_refl _)).at hlt
        subst hfa
        have HTX : Hid (bs l ++ bs (dec k) ++ (⟨#[32]⟩ : ByteArray) ++ bs (wordOf L[k].op ++ restOf L[k]) ++ (⟨#[10]⟩ : ByteArray) = bs (l ++ lineOf k L[k])) := by
          show bs l ++ bs (dec k) ++ bs [32] ++ bs (wordOf L[k].op ++ restOf L[k]) ++ bs [10] = _
          rw [bs_app, bs_app, bs_app, bs_app]
          congr 1
          unfold lineOf
          simp
        have hd1 : (bs (dec k)).size ≤ 5 := by rw [bs_size]; exact dec_len (by omega)
        have hd2 : (bs (wordOf L[k].op ++ restOf L[k])).size ≤ 4005 := by
          rw [bs_size, List.length_append]
          have h1 := restOf_len L[k] L.length k HRT hL
          have h2 := wordOf_len L[k].op
          omega
        have HLE : Hid ((l ++ lineOf k L[k]).length ≤ 6 + 4016 * (k + 1)) := by show _ ≤ _; rw [List.length_append]; omega
        clear HRT HWK HLL
        generalize L[k] = ff at *
        generalize bs (wordOf ff.op ++ restOf ff) = tx at *
        obtain ⟨fop, fset, fx, fy⟩ := ff
        have HF2 : Hid (CellsAt wr fb (fo + k * 7) [.int .i64 fop, .int .u64 fset.a, .int .u64 fset.b, .int .u64 fset.c, .int .u64 fset.d, .int .i64 fx, .int .i64 fy]) := hfc
        have HFB : Hid (fb < wr.heap.size) := hfb
        have hkI : (k : Int) < (L.length : Int) := by omega
        simp only [Inst.cells] at HLN
        clear hfc hfb
        go_upto_region 9 with fail
        clear q3
        have HC := hid (fun (x : World) (hx : Grow wr.drew x) => (show (x.cell? ⟨b0, 0, none⟩ = some (.slice (some ⟨fb, fo, none⟩) L.length c)) ∧ (x.cell? ⟨fb, fo + k * 7, none⟩ = some (.int .i64 fop) ∧ x.cell? ⟨fb, fo + k * 7 + 1, none⟩ = some (.int .u64 fset.a) ∧ x.cell? ⟨fb, fo + k * 7 + 2, none⟩ = some (.int .u64 fset.b) ∧ x.cell? ⟨fb, fo + k * 7 + 3, none⟩ = some (.int .u64 fset.c) ∧ x.cell? ⟨fb, fo + k * 7 + 4, none⟩ = some (.int .u64 fset.d) ∧ x.cell? ⟨fb, fo + k * 7 + 5, none⟩ = some (.int .i64 fx) ∧ x.cell? ⟨fb, fo + k * 7 + 6, none⟩ = some (.int .i64 fy)) from by
          have hb : Below wr.heap.size wr x := ⟨hx.os, hx.tape, hx.output, hx.size, hx.block⟩
          have hq := cells7 (show CellsAt x fb (fo + k * 7) [.int .i64 fop, .int .u64 fset.a, .int .u64 fset.b, .int .u64 fset.c, .int .u64 fset.d, .int .i64 fx, .int .i64 fy] from fun j v hj => by
            rw [hb.cell (p := ⟨fb, fo + k * 7 + j, none⟩) HFB.out]
            exact HF2.out j v hj)
          exact ⟨(HBX3.out.below hb HBX3.out.lt).cell 0, hq⟩))
        refine wp_region_inv 13 (Grow) (by kernel_rfl) (by kernel_rfl) (Grow.refl) (fun _ _ _ => Grow.trans) ?_
        simp only [fill, dstOf, Act.put, List.take_succ_cons, List.take_zero, List.getElem?_toArray, List.getElem?_cons_zero, List.getElem?_cons_succ, Option.bind_some, List.setIfInBounds_toArray, List.set_cons_zero, List.set_cons_succ]
        refine Plan.det 1 rfl (Grow.refl) ?_
        apply Exists.intro
        refine ⟨fun vs x hR hF K hK => ?_, ?_⟩
        · clear hF
          go_simp
          exact hK _ _ (Grow.refl _) rfl
        refine Plan.det 2 rfl (Grow.refl) ?_
        apply Exists.intro
        refine ⟨fun vs x hR hF K hK => ?_, ?_⟩
        · clear hF
          go_simp
          exact hK _ _ (Grow.refl _) rfl
        refine Plan.det 3 rfl (Grow.refl) ?_
        apply Exists.intro
        refine ⟨fun vs x hR hF K hK => ?_, ?_⟩
        · have f1 := hF 0 _ _ rfl rfl; clear hF
          go_simp
          refine (HFM.out x).mono ?_
          rintro e x1 ⟨rfl, hbe⟩
          exact ⟨_, rfl, hK _ _ hbe rfl⟩
        refine Plan.det 4 rfl (Grow.refl) ?_
        apply Exists.intro
        refine ⟨fun vs x hR hF K hK => ?_, ?_⟩
        · have f0 := hF 2 _ _ rfl rfl; have f2 := hF 0 _ _ rfl rfl; clear hF
          go_simp
          rw [if_neg (by omega)]
          exact hK _ _ (Grow.refl _) rfl
        refine Plan.det 5 rfl (Grow.refl) ?_
        apply Exists.intro
        refine ⟨fun vs x hR hF K hK => ?_, ?_⟩
        · have f3 := hF 0 _ _ rfl rfl; clear hF
          go_simp
          rw [if_neg (by omega)]
          exact hK _ _ (Grow.refl _) rfl
        refine Plan.det 6 rfl (Grow.refl) ?_
        apply Exists.intro
        refine ⟨fun vs x hR hF K hK => ?_, ?_⟩
        · clear hF
          go_simp
          exact hK _ _ (Grow.refl _) rfl
        refine Plan.det 7 rfl (Grow.refl) ?_
        apply Exists.intro
        refine ⟨fun vs x hR hF K hK => ?_, ?_⟩
        · have f5 := hF 0 _ _ rfl rfl; have hc := HC.out x hR; clear hF
          go_simp
          exact hK _ _ (Grow.refl _) rfl
        refine Plan.det 8 rfl (Grow.refl) ?_
        apply Exists.intro
        refine ⟨fun vs x hR hF K hK => ?_, ?_⟩
        · clear hF
          go_simp
          exact hK _ _ (Grow.refl _) rfl
        refine Plan.det 9 rfl (Grow.refl) ?_
        apply Exists.intro
        refine ⟨fun vs x hR hF K hK => ?_, ?_⟩
        · have f6 := hF 1 _ _ rfl rfl; have f7 := hF 0 _ _ rfl rfl; clear hF
          go_simp
          exact hK _ _ (Grow.refl _) rfl
        refine Plan.det 10 rfl (Grow.refl) ?_
        apply Exists.intro
        refine ⟨fun vs x hR hF K hK => ?_, ?_⟩
        · have f8 := hF 0 _ _ rfl rfl; have hc := HC.out x hR; clear hF
          go_simp
          exact hK _ _ (Grow.refl _) rfl
        refine Plan.det 11 rfl (Grow.refl) ?_
        apply Exists.intro
        refine ⟨fun vs x hR hF K hK => ?_, ?_⟩
        · have f2 := hF 7 _ _ rfl rfl; have f9 := hF 0 _ _ rfl rfl; clear hF
          go_simp
          refine (HLN.out x).mono ?_
          rintro e x1 ⟨rfl, hbe⟩
          exact ⟨_, rfl, hK _ _ hbe rfl⟩
        refine Plan.det 12 rfl (Grow.refl) ?_
        apply Exists.intro
        refine ⟨fun vs x hR hF K hK => ?_, ?_⟩
        · have f4 := hF 6 _ _ rfl rfl; have f10 := hF 0 _ _ rfl rfl; clear hF
          go_simp
          rw [if_neg (by omega)]
          exact hK _ _ (Grow.refl _) rfl
        refine Plan.det 13 rfl (Grow.refl) ?_
        apply Exists.intro
        refine ⟨fun vs x hR hF K hK => ?_, ?_⟩
        · have f11 := hF 0 _ _ rfl rfl; clear hF
          go_simp
          rw [if_neg (by omega)]
          exact hK _ _ (Grow.refl _) rfl
        refine Plan.nil (fun vs x hR hF => ?_)
        have f0 := hF 12 _ _ rfl; have f1 := hF 11 _ _ rfl; have f2 := hF 10 _ _ rfl; have f3 := hF 9 _ _ rfl; have f4 := hF 8 _ _ rfl; have f5 := hF 7 _ _ rfl; have f6 := hF 6 _ _ rfl; have f7 := hF 5 _ _ rfl; have f8 := hF 4 _ _ rfl; have f9 := hF 3 _ _ rfl; have f10 := hF 2 _ _ rfl; have f11 := hF 1 _ _ rfl; have f12 := hF 0 _ _ rfl
        clear hF
        simp only [f0, f1, f2, f3, f4, f5, f6, f7, f8, f9, f10, f11, f12]
        clear f0 f1 f2 f3 f4 f5 f6 f7 f8 f9 f10 f11 f12
        simp only [List.drop_succ_cons, List.drop_zero]
        have hbx : Below wr.heap.size wr x := ⟨hR.os, hR.tape, hR.output, hR.size, hR.block⟩
        have HW2 := hid (HW.out.trans (hbx.mono HW.out.size))
        clear HC hR hbx
        go_wp2_with fail
        all_goals
          refine ⟨⟨k + 1, l ++ lineOf k ⟨fop, fset, fx, fy⟩, hlt, HLE.out, rfl, by rw [← HTX.out], ?_, HW2.out⟩, ?_⟩
          · show _ = _
            rw [HPT.out, HL.out, List.append_assoc]
          · show L.length - ((k : Int) + 1).toNat < L.length - (k : Int).toNat
            omega
      · obtain rfl : k = L.length := by omega
        go_wp2_with fail
        all_goals (try go_ret)
        all_goals exact HPY.out _ _ (HB2.out.trans (HW.out.mono HB2.out.size)) HRI.out (by rw [HL.out]; rfl)
  · go_wp2_with fail
    go_loopw [3, 4] (fun vo vk wr => ∃ (k : Nat) (l : List UInt8), k ≤ L.length ∧ l.length ≤ 6 + 4016 * k ∧ vk = .int .i64 k ∧ vo = .string (bs l) ∧ Hid (l = [] ++ ptext L k) ∧ Hid (Below w2.heap.size w2 wr)) (fun _ vk _ => L.length - (intOf vk).toNat)
    case atStart => exact ⟨0, [], by omega, by decide, rfl, rfl, rfl, Below.refl _ _⟩
    case round =>
      obtain ⟨k, l, hk, hll, rfl, rfl, HL, HW⟩ := hrel
      have HBX3 := hid (HBX2.out.below HW.out HBX2.out.lt)
      have q3 : wr.cell? ⟨b0, 0, none⟩ = some (.slice a L.length c) := HBX3.out.cell 0
      have hbl : (bs l).size ≤ 20000000 := by rw [bs_size]; omega
      rcases Nat.lt_or_ge k L.length with hlt | hge
      · have HRT := HRI.out.2 k hlt
        have HLL := lineOf_len L[k] L.length k HRT hL hlt
        have HWK := HWF.out k hlt
        have HFM := hid (fun (y : World) => FormatR_any k y (by omega))
        have HLN := hid (fun (y : World) => line_any L[k] L.length k y HWK HRT hL)
        have HPT := hid (ptext_next hlt)
        obtain ⟨fb, fo, hfa, hfb, hfc⟩ := (HI2.out.below HW.out (Nat.le_refl _)).at hlt
        subst hfa
        have HTX : Hid (bs l ++ bs (dec k) ++ (⟨#[32]⟩ : ByteArray) ++ bs (wordOf L[k].op ++ restOf L[k]) ++ (⟨#[10]⟩ : ByteArray) = bs (l ++ lineOf k L[k])) := by
          show bs l ++ bs (dec k) ++ bs [32] ++ bs (wordOf L[k].op ++ restOf L[k]) ++ bs [10] = _
          rw [bs_app, bs_app, bs_app, bs_app]
          congr 1
          unfold lineOf
          simp
        have hd1 : (bs (dec k)).size ≤ 5 := by rw [bs_size]; exact dec_len (by omega)
        have hd2 : (bs (wordOf L[k].op ++ restOf L[k])).size ≤ 4005 := by
          rw [bs_size, List.length_append]
          have h1 := restOf_len L[k] L.length k HRT hL
          have h2 := wordOf_len L[k].op
          omega
        have HLE : Hid ((l ++ lineOf k L[k]).length ≤ 6 + 4016 * (k + 1)) := by show _ ≤ _; rw [List.length_append]; omega
        clear HRT HWK HLL
        generalize L[k] = ff at *
        generalize bs (wordOf ff.op ++ restOf ff) = tx at *
        obtain ⟨fop, fset, fx, fy⟩ := ff
        have HF2 : Hid (CellsAt wr fb (fo + k * 7) [.int .i64 fop, .int .u64 fset.a, .int .u64 fset.b, .int .u64 fset.c, .int .u64 fset.d, .int .i64 fx, .int .i64 fy]) := hfc
        have HFB : Hid (fb < wr.heap.size) := hfb
        have hkI : (k : Int) < (L.length : Int) := by omega
        simp only [Inst.cells] at HLN
        clear hfc hfb
        go_upto_region 9 with fail
        clear q3
        have HC := hid (fun (x : World) (hx : Grow wr.drew x) => (show (x.cell? ⟨b0, 0, none⟩ = some (.slice (some ⟨fb, fo, none⟩) L.length c)) ∧ (x.cell? ⟨fb, fo + k * 7, none⟩ = some (.int .i64 fop) ∧ x.cell? ⟨fb, fo + k * 7 + 1, none⟩ = some (.int .u64 fset.a) ∧ x.cell? ⟨fb, fo + k * 7 + 2, none⟩ = some (.int .u64 fset.b) ∧ x.cell? ⟨fb, fo + k * 7 + 3, none⟩ = some (.int .u64 fset.c) ∧ x.cell? ⟨fb, fo + k * 7 + 4, none⟩ = some (.int .u64 fset.d) ∧ x.cell? ⟨fb, fo + k * 7 + 5, none⟩ = some (.int .i64 fx) ∧ x.cell? ⟨fb, fo + k * 7 + 6, none⟩ = some (.int .i64 fy)) from by
          have hb : Below wr.heap.size wr x := ⟨hx.os, hx.tape, hx.output, hx.size, hx.block⟩
          have hq := cells7 (show CellsAt x fb (fo + k * 7) [.int .i64 fop, .int .u64 fset.a, .int .u64 fset.b, .int .u64 fset.c, .int .u64 fset.d, .int .i64 fx, .int .i64 fy] from fun j v hj => by
            rw [hb.cell (p := ⟨fb, fo + k * 7 + j, none⟩) HFB.out]
            exact HF2.out j v hj)
          exact ⟨(HBX3.out.below hb HBX3.out.lt).cell 0, hq⟩))
        refine wp_region_inv 13 (Grow) (by kernel_rfl) (by kernel_rfl) (Grow.refl) (fun _ _ _ => Grow.trans) ?_
        simp only [fill, dstOf, Act.put, List.take_succ_cons, List.take_zero, List.getElem?_toArray, List.getElem?_cons_zero, List.getElem?_cons_succ, Option.bind_some, List.setIfInBounds_toArray, List.set_cons_zero, List.set_cons_succ]
        refine Plan.det 1 rfl (Grow.refl) ?_
        apply Exists.intro
        refine ⟨fun vs x hR hF K hK => ?_, ?_⟩
        · clear hF
          go_simp
          exact hK _ _ (Grow.refl _) rfl
        refine Plan.det 2 rfl (Grow.refl) ?_
        apply Exists.intro
        refine ⟨fun vs x hR hF K hK => ?_, ?_⟩
        · clear hF
          go_simp
          exact hK _ _ (Grow.refl _) rfl
        refine Plan.det 3 rfl (Grow.refl) ?_
        apply Exists.intro
        refine ⟨fun vs x hR hF K hK => ?_, ?_⟩
        · have f1 := hF 0 _ _ rfl rfl; clear hF
          go_simp
          refine (HFM.out x).mono ?_
          rintro e x1 ⟨rfl, hbe⟩
          exact ⟨_, rfl, hK _ _ hbe rfl⟩
        refine Plan.det 4 rfl (Grow.refl) ?_
        apply Exists.intro
        refine ⟨fun vs x hR hF K hK => ?_, ?_⟩
        · have f0 := hF 2 _ _ rfl rfl; have f2 := hF 0 _ _ rfl rfl; clear hF
          go_simp
          rw [if_neg (by omega)]
          exact hK _ _ (Grow.refl _) rfl
        refine Plan.det 5 rfl (Grow.refl) ?_
        apply Exists.intro
        refine ⟨fun vs x hR hF K hK => ?_, ?_⟩
        · have f3 := hF 0 _ _ rfl rfl; clear hF
          go_simp
          rw [if_neg (by omega)]
          exact hK _ _ (Grow.refl _) rfl
        refine Plan.det 6 rfl (Grow.refl) ?_
        apply Exists.intro
        refine ⟨fun vs x hR hF K hK => ?_, ?_⟩
        · clear hF
          go_simp
          exact hK _ _ (Grow.refl _) rfl
        refine Plan.det 7 rfl (Grow.refl) ?_
        apply Exists.intro
        refine ⟨fun vs x hR hF K hK => ?_, ?_⟩
        · have f5 := hF 0 _ _ rfl rfl; have hc := HC.out x hR; clear hF
          go_simp
          exact hK _ _ (Grow.refl _) rfl
        refine Plan.det 8 rfl (Grow.refl) ?_
        apply Exists.intro
        refine ⟨fun vs x hR hF K hK => ?_, ?_⟩
        · clear hF
          go_simp
          exact hK _ _ (Grow.refl _) rfl
        refine Plan.det 9 rfl (Grow.refl) ?_
        apply Exists.intro
        refine ⟨fun vs x hR hF K hK => ?_, ?_⟩
        · have f6 := hF 1 _ _ rfl rfl; have f7 := hF 0 _ _ rfl rfl; clear hF
          go_simp
          exact hK _ _ (Grow.refl _) rfl
        refine Plan.det 10 rfl (Grow.refl) ?_
        apply Exists.intro
        refine ⟨fun vs x hR hF K hK => ?_, ?_⟩
        · have f8 := hF 0 _ _ rfl rfl; have hc := HC.out x hR; clear hF
          go_simp
          exact hK _ _ (Grow.refl _) rfl
        refine Plan.det 11 rfl (Grow.refl) ?_
        apply Exists.intro
        refine ⟨fun vs x hR hF K hK => ?_, ?_⟩
        · have f2 := hF 7 _ _ rfl rfl; have f9 := hF 0 _ _ rfl rfl; clear hF
          go_simp
          refine (HLN.out x).mono ?_
          rintro e x1 ⟨rfl, hbe⟩
          exact ⟨_, rfl, hK _ _ hbe rfl⟩
        refine Plan.det 12 rfl (Grow.refl) ?_
        apply Exists.intro
        refine ⟨fun vs x hR hF K hK => ?_, ?_⟩
        · have f4 := hF 6 _ _ rfl rfl; have f10 := hF 0 _ _ rfl rfl; clear hF
          go_simp
          rw [if_neg (by omega)]
          exact hK _ _ (Grow.refl _) rfl
        refine Plan.det 13 rfl (Grow.refl) ?_
        apply Exists.intro
        refine ⟨fun vs x hR hF K hK => ?_, ?_⟩
        · have f11 := hF 0 _ _ rfl rfl; clear hF
          go_simp
          rw [if_neg (by omega)]
          exact hK _ _ (Grow.refl _) rfl
        refine Plan.nil (fun vs x hR hF => ?_)
        have f0 := hF 12 _ _ rfl; have f1 := hF 11 _ _ rfl; have f2 := hF 10 _ _ rfl; have f3 := hF 9 _ _ rfl; have f4 := hF 8 _ _ rfl; have f5 := hF 7 _ _ rfl; have f6 := hF 6 _ _ rfl; have f7 := hF 5 _ _ rfl; have f8 := hF 4 _ _ rfl; have f9 := hF 3 _ _ rfl; have f10 := hF 2 _ _ rfl; have f11 := hF 1 _ _ rfl; have f12 := hF 0 _ _ rfl
        clear hF
        simp only [f0, f1, f2, f3, f4, f5, f6, f7, f8, f9, f10, f11, f12]
        clear f0 f1 f2 f3 f4 f5 f6 f7 f8 f9 f10 f11 f12
        simp only [List.drop_succ_cons, List.drop_zero]
        have hbx : Below wr.heap.size wr x := ⟨hR.os, hR.tape, hR.output, hR.size, hR.block⟩
        have HW2 := hid (HW.out.trans (hbx.mono HW.out.size))
        clear HC hR hbx
        go_wp2_with fail
        all_goals
          refine ⟨⟨k + 1, l ++ lineOf k ⟨fop, fset, fx, fy⟩, hlt, HLE.out, rfl, by rw [← HTX.out], ?_, HW2.out⟩, ?_⟩
          · show _ = _
            rw [HPT.out, HL.out, List.append_assoc]
          · show L.length - ((k : Int) + 1).toNat < L.length - (k : Int).toNat
            omega
      · obtain rfl : k = L.length := by omega
        go_wp2_with fail
        all_goals (try go_ret)
        all_goals exact HPY.out _ _ (HB2.out.trans (HW.out.mono HB2.out.size)) HRI.out (by rw [HL.out]; rfl)
end Go.Proofs.YtjjhdddlbgdkeaaDoor
