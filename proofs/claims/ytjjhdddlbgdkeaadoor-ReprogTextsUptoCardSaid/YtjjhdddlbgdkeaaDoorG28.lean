/- The program's Print. -/
import Derived.Test.YtjjhdddlbgdkeaaDoorG26
import Derived.Test.YtjjhdddlbgdkeaaDoorG27
namespace Go.Proofs.YtjjhdddlbgdkeaaDoor
open Go.RowKit
attribute [local go_sem] gives givesUpon

theorem name_cell {w : World} (h : Tabs w) (i : Nat) (s : ByteArray) (hs : nameVals[i]? = some (.string s)) : w.cell? ⟨0, i, none⟩ = some (.string s) := by
  have h1 := World.var?_cell (show Tryd.prog.globalNamed "texttools/reprog.names" = some 0 by kernel_rfl) h.names i
  rw [h1]
  simpa using hs
theorem Row.ne_bd {w : World} {B b bx : Nat} {l : List UInt8} {cs : List Value} {T : TypeId} (h : Row w bx cs T) (hd : Bd B b l w) (hT : T ≠ 40) : bx ≠ b := by
  intro e
  subst e
  unfold Row at h
  rcases hd with hd | hd
  all_goals
    obtain ⟨-, v, hb, -⟩ := hd
    rw [h] at hb
    simp only [Option.some.injEq, Obj.cells.injEq] at hb
    exact hT hb.2.1
theorem Bd.base {B b : Nat} {l : List UInt8} {w : World} (h : Bd B b l w) : B ≤ w.heap.size := Nat.le_trans h.ge (Nat.le_of_lt h.lt)
set_option maxRecDepth 100000 in
set_option maxHeartbeats 2000000 in
theorem ValidBig_any (w : World) (a : Option Addr) (c n : Nat) (lines : Bool) (hn : 4096 < n) (hn2 : n ≤ 2000000) :
    Calls Tryd.prog 5 #[.agg #[.slice a n c, .bool lines]] w fun e w' => e = .returned (.bool false) ∧ Below w.heap.size w w' := by
  have HB0 : Hid (Below w.heap.size w ((w.alloc (.cells #[.slice a n c, .bool lines] 24)).alloc (.cells #[.int .i64 n] 3))) := (Grow.alloc w _).trans (Grow.alloc _ _)
  go_enter Tryd.func5, Tryd.ntmps5
  go_wp2_with fail
  all_goals (try go_ret)
  all_goals exact ⟨rfl, HB0.out⟩
theorem Valid3_any (w : World) (a : Option Addr) (c : Nat) (L : List Inst) (lines : Bool) (h : InsAt w a L) (hn : L.length ≤ 1048576) :
    Calls Tryd.prog 5 #[.agg #[.slice a L.length c, .bool lines]] w (VPost L w) := by
  rcases Nat.lt_or_ge 4096 L.length with h1 | h1
  · refine (ValidBig_any w a c L.length lines h1 (by omega)).mono ?_
    rintro e w' ⟨rfl, hb⟩
    refine ⟨false, rfl, ?_, hb⟩
    constructor
    · intro h; cases h
    · intro hr; have := hr.1.2; omega
  · exact Valid2_any w a c L lines h h1
set_option maxRecDepth 100000 in
set_option maxHeartbeats 16000000 in
theorem Print_any (w : World) (a : Option Addr) (c : Nat) (L : List Inst) (lines : Bool) (h : InsAt w a L) (hwf : ∀ k (h : k < L.length), L[k].set.wf) (hn : L.length ≤ 1048576) (ht : Tabs w) (h8 : 2 ≤ w.heap.size) :
    Calls Tryd.prog 7 #[.agg #[.slice a L.length c, .bool lines]] w (PrPost L lines w) := by
  have HPN : Hid (∀ w', Below w.heap.size w w' → ¬ rightAll L → PrPost L lines w (.returned (.string ⟨#[]⟩)) w') := fun w' h1 h2 => ⟨h1, [], rfl, .inr ⟨h2, rfl⟩⟩
  have HPY : Hid (∀ w' t, Below w.heap.size w w' → rightAll L → t = progText L lines → PrPost L lines w (.returned (.string ⟨t.toArray⟩)) w') := fun w' t h1 h2 h3 => ⟨h1, t, rfl, .inl ⟨h2, h3⟩⟩
  generalize PrPost L lines w = PP at *
  have HBX : Hid (Row (w.alloc (.cells #[.slice a L.length c, .bool lines] 24)) w.heap.size [.slice a L.length c, .bool lines] 24) := Row.at w [.slice a L.length c, .bool lines] _
  have HB0 : Hid (Below w.heap.size w (w.alloc (.cells #[.slice a L.length c, .bool lines] 24))) := Grow.alloc w _
  have HI1 : Hid (InsAt (w.alloc (.cells #[.slice a L.length c, .bool lines] 24)) a L) := h.below HB0.out (Nat.le_refl _)
  have HWF := hid hwf
  have HT := hid ht
  have HVR := hid (Valid3_any (w.alloc (.cells #[.slice a L.length c, .bool lines] 24)) a c L lines HI1.out hn)
  clear h hwf ht
  go_enter Tryd.func7, Tryd.ntmps7
  go_upto_region 1 with fail
  generalize w.alloc (.cells #[.slice a L.length c, .bool lines] 24) = w1 at *
  have q : w1.cell? ⟨w.heap.size, 0, none⟩ = some (.slice a L.length c) ∧ w1.cell? ⟨w.heap.size, 1, none⟩ = some (.bool lines) := ⟨HBX.out.cell 0, HBX.out.cell 1⟩
  generalize hb0 : w.heap.size = b0 at q HBX
  have HB0E := hid hb0
  clear hb0
  go_wp2_with fail
  refine HVR.out.mono ?_
  rintro e w2 ⟨bv, rfl, hbv, hb2⟩
  have HB2 := hid (HB0.out.trans (hb2.mono HB0.out.size))
  have HBX2 := hid (HBX.out.below hb2 HBX.out.lt)
  have HI2 := hid (HI1.out.below hb2 (Nat.le_refl _))
  have HT2 := hid (HT.out.below HB2.out h8)
  have h82 : 2 ≤ w2.heap.size := Nat.le_trans h8 HB2.out.size
  clear hb2 q HVR
  cases bv with
  | false =>
    have HNR : Hid (¬ rightAll L) := fun hr => by have := hbv.2 hr; cases this
    go_wp2_with fail
    all_goals (try go_ret)
    all_goals exact HPN.out _ HB2.out HNR.out
  | true =>
  have HRI : Hid (rightAll L) := hbv.1 rfl
  have hL : L.length ≤ 4096 := HRI.out.1.2
  clear hbv
  have HD3 := hid (bd_new w2)
  have HA3 : Hid (Below w2.heap.size w2 (w2.alloc (.cells #[.pointer none, .slice none 0 0] 40))) := Grow.alloc w2 _
  have HBX3 := hid (HBX2.out.below HA3.out HBX2.out.lt)
  go_upto_region 4 with fail
  generalize w2.alloc (.cells #[.pointer none, .slice none 0 0] 40) = w3 at *
  generalize hbb : w2.heap.size = bb at *
  have q3 : w3.cell? ⟨b0, 0, none⟩ = some (.slice a L.length c) ∧ w3.cell? ⟨b0, 1, none⟩ = some (.bool lines) := ⟨HBX3.out.cell 0, HBX3.out.cell 1⟩
  have HBB := hid hbb
  clear hbb
  have HBXL : Hid (b0 < bb) := by rw [← HBB.out]; exact HBX2.out.lt
  rcases Bool.eq_false_or_eq_true lines with rfl | rfl
  · go_wp2_with fail
    refine (WriteString_any bb bb [] ⟨#[108, 105, 110, 101, 115, 10]⟩ w3 HD3.out (by decide) HD3.out.base).mono ?_
    rintro e w4 ⟨rfl, hd4, hb4, -⟩
    have HD4 : Hid (Bd bb bb sLines w4) := hd4
    have HW4 := hid (HA3.out.trans (hb4.mono (Nat.le_refl _)))
    have HBX4 := hid (HBX3.out.below hb4 HBXL.out)
    have q4 : w4.cell? ⟨b0, 0, none⟩ = some (.slice a L.length c) := HBX4.out.cell 0
    clear hd4 hb4 q3
    go_wp2_with fail
    go_loopw [15] (fun vk wr => ∃ (k : Nat) (l : List UInt8), k ≤ L.length ∧ l.length ≤ 6 + 4016 * k ∧ vk = .int .i64 k ∧ Hid (l = sLines ++ ptext L k) ∧ Hid (Bd bb bb l wr ∧ Below bb w2 wr)) (fun vk _ => L.length - (intOf vk).toNat)
    case atStart => exact ⟨0, sLines, by omega, by decide, rfl, rfl, HD4.out, HW4.out⟩
    case round =>
      obtain ⟨k, l, hk, hll, rfl, HL, HX⟩ := hrel
      rcases Nat.lt_or_ge k L.length with hlt | hge
      · have HRT := hid (HRI.out.2 k hlt)
        have HLL := lineOf_len L[k] L.length k HRT.out hL hlt
        have HWK := hid (HWF.out k hlt)
        have HPT := hid (ptext_next hlt)
        obtain ⟨fb, fo, hfa, hfb, hfc⟩ := (HI2.out.below HX.out.2 (by rw [HBB.out]; exact Nat.le_refl _)).at hlt
        subst hfa
        have HLE : Hid ((l ++ lineOf k L[k]).length ≤ 6 + 4016 * (k + 1)) := by show _ ≤ _; rw [List.length_append]; omega
        generalize L[k] = ff at *
        obtain ⟨fop, fset, fx, fy⟩ := ff
        have hcase : fop = 1 ∨ fop = 2 ∨ fop = 3 ∨ fop = 4 ∨ fop = 5 ∨ fop = 6 := by
          have h := HRT.out
          unfold Inst.right at h
          simp only at h
          omega
        have qi := cells7 (show CellsAt wr fb (fo + k * 7) [.int .i64 fop, .int .u64 fset.a, .int .u64 fset.b, .int .u64 fset.c, .int .u64 fset.d, .int .i64 fx, .int .i64 fy] from hfc)
        have hkI : (k : Int) < (L.length : Int) := by omega
        have HRW : Hid (Row (wr.alloc (.cells #[.int .i64 fop, .int .u64 fset.a, .int .u64 fset.b, .int .u64 fset.c, .int .u64 fset.d, .int .i64 fx, .int .i64 fy] 35)) wr.heap.size [.int .i64 fop, .int .u64 fset.a, .int .u64 fset.b, .int .u64 fset.c, .int .u64 fset.d, .int .i64 fx, .int .i64 fy] 35) := Row.at wr [.int .i64 fop, .int .u64 fset.a, .int .u64 fset.b, .int .u64 fset.c, .int .u64 fset.d, .int .i64 fx, .int .i64 fy] _
        have HAW : Hid (Below wr.heap.size wr (wr.alloc (.cells #[.int .i64 fop, .int .u64 fset.a, .int .u64 fset.b, .int .u64 fset.c, .int .u64 fset.d, .int .i64 fx, .int .i64 fy] 35))) := Grow.alloc wr _
        have hbw : bb ≤ wr.heap.size := HX.out.1.base
        go_upto_region 9 with fail
        generalize wr.alloc (.cells #[.int .i64 fop, .int .u64 fset.a, .int .u64 fset.b, .int .u64 fset.c, .int .u64 fset.d, .int .i64 fx, .int .i64 fy] 35) = w8 at *
        have HD8 := hid (HX.out.1.more HAW.out)
        have HW8 := hid (HX.out.2.trans (HAW.out.mono hbw))
        generalize wr.heap.size = bx at HRW
        clear hfc qi hfb HX HAW hbw HLL
        have hd0 : (bs (dec k)).size ≤ 5 := by rw [bs_size]; exact dec_len (by omega)
        have hd0l : (dec k).length ≤ 5 := dec_len (by omega)
        have HFM := hid (fun (y : World) (hy : Below bb w2 y) => Format_any k y (by omega) (HT2.out.below hy (by omega)))
        have HBY := hid (fun (x : World) (hx : Grow w8.drew x) => HW8.out.trans ((show Below w8.heap.size w8 x from ⟨hx.os, hx.tape, hx.output, hx.size, hx.block⟩).mono HD8.out.base))
        rcases hcase with rfl | rfl | rfl | rfl | rfl | rfl
        · have HC := hid (fun (x : World) (hx : Grow w8.drew x) => (show x.cell? ⟨bx, 0, none⟩ = some (.int .i64 1) ∧ x.cell? ⟨0, 1, none⟩ = some (.string ⟨#[115, 101, 116]⟩) from
            ⟨(HRW.out.below (show Below w8.heap.size w8 x from ⟨hx.os, hx.tape, hx.output, hx.size, hx.block⟩) HRW.out.lt).cell 0, name_cell (HT2.out.below (HBY.out x hx) (by omega)) 1 _ rfl⟩))
          refine wp_region_inv 8 (Grow) (by kernel_rfl) (by kernel_rfl) (Grow.refl) (fun _ _ _ => Grow.trans) ?_
          simp only [fill, dstOf, Act.put, List.take_succ_cons, List.take_zero, List.getElem?_toArray, List.getElem?_cons_zero, List.getElem?_cons_succ, Option.bind_some, List.setIfInBounds_toArray, List.set_cons_zero, List.set_cons_succ]
          refine Plan.det 1 rfl (Grow.refl) ?_
          apply Exists.intro
          refine ⟨fun vs x hR hF K hK => ?_, ?_⟩
          · clear hF
            go_simp
            exact hK _ _ (Grow.refl _) rfl
          refine Plan.det 2 rfl (Grow.refl) ?_
          apply Exists.intro
          refine ⟨fun vs x hR hF K hK => ?_, ?_⟩
          · have f0 := hF 0 _ _ rfl rfl; clear hF
            go_simp
            refine (HFM.out x (HBY.out x hR)).mono ?_
            rintro e x1 ⟨rfl, hbe⟩
            exact ⟨_, rfl, hK _ _ hbe rfl⟩
          refine Plan.det 3 rfl (Grow.refl) ?_
          apply Exists.intro
          refine ⟨fun vs x hR hF K hK => ?_, ?_⟩
          · have f1 := hF 0 _ _ rfl rfl; clear hF
            go_simp
            rw [if_neg (by omega)]
            exact hK _ _ (Grow.refl _) rfl
          refine Plan.det 4 rfl (Grow.refl) ?_
          apply Exists.intro
          refine ⟨fun vs x hR hF K hK => ?_, ?_⟩
          · clear hF
            go_simp
            exact hK _ _ (Grow.refl _) rfl
          refine Plan.det 5 rfl (Grow.refl) ?_
          apply Exists.intro
          refine ⟨fun vs x hR hF K hK => ?_, ?_⟩
          · have f3 := hF 0 _ _ rfl rfl; have hc := HC.out x hR; clear hF
            go_simp
            exact hK _ _ (Grow.refl _) rfl
          refine Plan.det 6 rfl (Grow.refl) ?_
          apply Exists.intro
          refine ⟨fun vs x hR hF K hK => ?_, ?_⟩
          · have f4 := hF 0 _ _ rfl rfl; clear hF
            go_simp
            exact hK _ _ (Grow.refl _) rfl
          refine Plan.det 7 rfl (Grow.refl) ?_
          apply Exists.intro
          refine ⟨fun vs x hR hF K hK => ?_, ?_⟩
          · have f5 := hF 0 _ _ rfl rfl; have hc := HC.out x hR; clear hF
            go_simp
            exact hK _ _ (Grow.refl _) rfl
          refine Plan.det 8 rfl (Grow.refl) ?_
          apply Exists.intro
          refine ⟨fun vs x hR hF K hK => ?_, ?_⟩
          · have f2 := hF 4 _ _ rfl rfl; have f6 := hF 0 _ _ rfl rfl; clear hF
            go_simp
            rw [if_neg (by omega)]
            exact hK _ _ (Grow.refl _) rfl
          refine Plan.nil (fun vs x hR hF => ?_)
          have f0 := hF 7 _ _ rfl; have f1 := hF 6 _ _ rfl; have f2 := hF 5 _ _ rfl; have f3 := hF 4 _ _ rfl; have f4 := hF 3 _ _ rfl; have f5 := hF 2 _ _ rfl; have f6 := hF 1 _ _ rfl; have f7 := hF 0 _ _ rfl
          clear hF
          simp only [f0, f1, f2, f3, f4, f5, f6, f7]
          clear f0 f1 f2 f3 f4 f5 f6 f7
          simp only [List.drop_succ_cons, List.drop_zero]
          have hbx5 : Below w8.heap.size w8 x := ⟨hR.os, hR.tape, hR.output, hR.size, hR.block⟩
          have HDx := hid (HD8.out.more hbx5)
          have HWx := hid (HBY.out x hR)
          have HRx := hid (HRW.out.below hbx5 HRW.out.lt)
          have HS1 : Hid (bs (dec k) ++ (⟨#[32]⟩ : ByteArray) ++ (⟨#[115, 101, 116]⟩ : ByteArray) = bs (dec k ++ [32, 115, 101, 116])) := by
            show bs (dec k) ++ bs [32] ++ bs [115, 101, 116] = _
            rw [bs_app, bs_app]
            congr 1
            simp
          have hs1l : (dec k ++ [32, 115, 101, 116] : List UInt8).length ≤ 12 := by simp only [List.length_append, List.length_cons, List.length_nil]; omega
          have hs1 : (bs (dec k ++ [32, 115, 101, 116])).size ≤ 12 := by rw [bs_size]; exact hs1l
          clear HC hR hbx5 HBY HFM
          rw [HS1.out]
          go_wp2_with fail
          refine (WriteString_any bb bb l (bs (dec k ++ [32, 115, 101, 116])) _ HDx.out (by omega) HDx.out.base).mono ?_
          rintro e w5 ⟨rfl, hd5, hb5, ho5⟩
          rw [bs_list] at hd5
          have hl1 : (l ++ (dec k ++ [32, 115, 101, 116])).length ≤ 20000000 := by rw [List.length_append]; omega
          obtain ⟨l1, hg1⟩ : ∃ l1, l1 = l ++ (dec k ++ [32, 115, 101, 116]) := ⟨_, rfl⟩
          rw [← hg1] at hd5 hl1
          have HL1 := hid hg1.symm
          clear hg1
          have HD5 := hid hd5
          have HW5 := hid (HWx.out.trans (hb5.mono (Nat.le_refl _)))
          have HRX := hid (HRx.out.oth ho5 (HRx.out.ne_bd HDx.out (by decide)) (by decide))
          have HBS5 : Hid (bb ≤ w5.heap.size) := HD5.out.base
          clear hd5 hb5 ho5 HDx HRx HWx
          have q6 := row7 HRX.out
          have HST := hid (fun (y : World) (hy : Below bb w2 y) => set_any fset y HWK.out (HT2.out.below hy (by omega)) (Nat.le_trans (by have := HBB.out; omega) hy.size))
          have HSX := hid (HST.out _ HW5.out)
          clear HST
          go_wp2_with fail
          refine HSX.out.mono ?_
          rintro e w6 ⟨rfl, hb6⟩
          have HD6 := hid (HD5.out.more hb6)
          have HW6 := hid (HW5.out.trans (hb6.mono HBS5.out))
          have hrl : (bs (rtext fset 256)).size ≤ 3072 := by rw [bs_size]; exact rtext_len fset 256 (by omega)
          clear hb6 HSX q6
          go_wp2_with fail
          refine (WriteString_any bb bb l1 (bs (rtext fset 256)) _ HD6.out (by omega) HD6.out.base).mono ?_
          rintro e w7 ⟨rfl, hd7, hb7, -⟩
          rw [bs_list] at hd7
          have HD7 := hid hd7
          have HW7 := hid (HW6.out.trans (hb7.mono (Nat.le_refl _)))
          have hl7 : (l1 ++ rtext fset 256).length ≤ 30000000 := by rw [List.length_append]; have := rtext_len fset 256 (by omega); omega
          have HLN : Hid (l1 ++ rtext fset 256 ++ [10] = l ++ lineOf k ⟨1, fset, fx, fy⟩) := by
            show _ = _
            rw [← HL1.out]
            show l ++ (dec k ++ [32, 115, 101, 116]) ++ rtext fset 256 ++ [10] = l ++ (dec k ++ 32 :: ([115, 101, 116] ++ (rtext fset 256 ++ [10])))
            simp
          clear hd7 hb7
          go_wp2_with fail
          refine (WriteByte_any bb bb (l1 ++ rtext fset 256) 10 _ HD7.out (by omega) HD7.out.base).mono ?_
          rintro e w9 ⟨rfl, hd9, hb9, -⟩
          rw [HLN.out] at hd9
          have HD9 := hid hd9
          have HW9 := hid (HW7.out.trans (hb9.mono (Nat.le_refl _)))
          clear hd9 hb9
          go_wp2_with fail
          all_goals
            refine ⟨⟨k + 1, l ++ lineOf k ⟨1, fset, fx, fy⟩, hlt, HLE.out, rfl, ?_, HD9.out, HW9.out⟩, ?_⟩
            · show _ = _
              rw [HPT.out, HL.out, List.append_assoc]
            · show L.length - ((k : Int) + 1).toNat < L.length - (k : Int).toNat
              omega
        · have HC := hid (fun (x : World) (hx : Grow w8.drew x) => (show x.cell? ⟨bx, 0, none⟩ = some (.int .i64 2) ∧ x.cell? ⟨0, 2, none⟩ = some (.string ⟨#[115, 112, 108, 105, 116]⟩) from
            ⟨(HRW.out.below (show Below w8.heap.size w8 x from ⟨hx.os, hx.tape, hx.output, hx.size, hx.block⟩) HRW.out.lt).cell 0, name_cell (HT2.out.below (HBY.out x hx) (by omega)) 2 _ rfl⟩))
          refine wp_region_inv 8 (Grow) (by kernel_rfl) (by kernel_rfl) (Grow.refl) (fun _ _ _ => Grow.trans) ?_
          simp only [fill, dstOf, Act.put, List.take_succ_cons, List.take_zero, List.getElem?_toArray, List.getElem?_cons_zero, List.getElem?_cons_succ, Option.bind_some, List.setIfInBounds_toArray, List.set_cons_zero, List.set_cons_succ]
          refine Plan.det 1 rfl (Grow.refl) ?_
          apply Exists.intro
          refine ⟨fun vs x hR hF K hK => ?_, ?_⟩
          · clear hF
            go_simp
            exact hK _ _ (Grow.refl _) rfl
          refine Plan.det 2 rfl (Grow.refl) ?_
          apply Exists.intro
          refine ⟨fun vs x hR hF K hK => ?_, ?_⟩
          · have f0 := hF 0 _ _ rfl rfl; clear hF
            go_simp
            refine (HFM.out x (HBY.out x hR)).mono ?_
            rintro e x1 ⟨rfl, hbe⟩
            exact ⟨_, rfl, hK _ _ hbe rfl⟩
          refine Plan.det 3 rfl (Grow.refl) ?_
          apply Exists.intro
          refine ⟨fun vs x hR hF K hK => ?_, ?_⟩
          · have f1 := hF 0 _ _ rfl rfl; clear hF
            go_simp
            rw [if_neg (by omega)]
            exact hK _ _ (Grow.refl _) rfl
          refine Plan.det 4 rfl (Grow.refl) ?_
          apply Exists.intro
          refine ⟨fun vs x hR hF K hK => ?_, ?_⟩
          · clear hF
            go_simp
            exact hK _ _ (Grow.refl _) rfl
          refine Plan.det 5 rfl (Grow.refl) ?_
          apply Exists.intro
          refine ⟨fun vs x hR hF K hK => ?_, ?_⟩
          · have f3 := hF 0 _ _ rfl rfl; have hc := HC.out x hR; clear hF
            go_simp
            exact hK _ _ (Grow.refl _) rfl
          refine Plan.det 6 rfl (Grow.refl) ?_
          apply Exists.intro
          refine ⟨fun vs x hR hF K hK => ?_, ?_⟩
          · have f4 := hF 0 _ _ rfl rfl; clear hF
            go_simp
            exact hK _ _ (Grow.refl _) rfl
          refine Plan.det 7 rfl (Grow.refl) ?_
          apply Exists.intro
          refine ⟨fun vs x hR hF K hK => ?_, ?_⟩
          · have f5 := hF 0 _ _ rfl rfl; have hc := HC.out x hR; clear hF
            go_simp
            exact hK _ _ (Grow.refl _) rfl
          refine Plan.det 8 rfl (Grow.refl) ?_
          apply Exists.intro
          refine ⟨fun vs x hR hF K hK => ?_, ?_⟩
          · have f2 := hF 4 _ _ rfl rfl; have f6 := hF 0 _ _ rfl rfl; clear hF
            go_simp
            rw [if_neg (by omega)]
            exact hK _ _ (Grow.refl _) rfl
          refine Plan.nil (fun vs x hR hF => ?_)
          have f0 := hF 7 _ _ rfl; have f1 := hF 6 _ _ rfl; have f2 := hF 5 _ _ rfl; have f3 := hF 4 _ _ rfl; have f4 := hF 3 _ _ rfl; have f5 := hF 2 _ _ rfl; have f6 := hF 1 _ _ rfl; have f7 := hF 0 _ _ rfl
          clear hF
          simp only [f0, f1, f2, f3, f4, f5, f6, f7]
          clear f0 f1 f2 f3 f4 f5 f6 f7
          simp only [List.drop_succ_cons, List.drop_zero]
          have hbx5 : Below w8.heap.size w8 x := ⟨hR.os, hR.tape, hR.output, hR.size, hR.block⟩
          have HDx := hid (HD8.out.more hbx5)
          have HWx := hid (HBY.out x hR)
          have HRx := hid (HRW.out.below hbx5 HRW.out.lt)
          have HS1 : Hid (bs (dec k) ++ (⟨#[32]⟩ : ByteArray) ++ (⟨#[115, 112, 108, 105, 116]⟩ : ByteArray) = bs (dec k ++ [32, 115, 112, 108, 105, 116])) := by
            show bs (dec k) ++ bs [32] ++ bs [115, 112, 108, 105, 116] = _
            rw [bs_app, bs_app]
            congr 1
            simp
          have hs1l : (dec k ++ [32, 115, 112, 108, 105, 116] : List UInt8).length ≤ 12 := by simp only [List.length_append, List.length_cons, List.length_nil]; omega
          have hs1 : (bs (dec k ++ [32, 115, 112, 108, 105, 116])).size ≤ 12 := by rw [bs_size]; exact hs1l
          clear HC hR hbx5 HBY HFM
          rw [HS1.out]
          go_wp2_with fail
          refine (WriteString_any bb bb l (bs (dec k ++ [32, 115, 112, 108, 105, 116])) _ HDx.out (by omega) HDx.out.base).mono ?_
          rintro e w5 ⟨rfl, hd5, hb5, ho5⟩
          rw [bs_list] at hd5
          have hl1 : (l ++ (dec k ++ [32, 115, 112, 108, 105, 116])).length ≤ 20000000 := by rw [List.length_append]; omega
          obtain ⟨l1, hg1⟩ : ∃ l1, l1 = l ++ (dec k ++ [32, 115, 112, 108, 105, 116]) := ⟨_, rfl⟩
          rw [← hg1] at hd5 hl1
          have HL1 := hid hg1.symm
          clear hg1
          have HD5 := hid hd5
          have HW5 := hid (HWx.out.trans (hb5.mono (Nat.le_refl _)))
          have HRX := hid (HRx.out.oth ho5 (HRx.out.ne_bd HDx.out (by decide)) (by decide))
          have HBS5 : Hid (bb ≤ w5.heap.size) := HD5.out.base
          clear hd5 hb5 ho5 HDx HRx HWx
          have q6 := row7 HRX.out
          obtain ⟨hx, hy⟩ : (0 ≤ fx ∧ fx < L.length) ∧ (0 ≤ fy ∧ fy < L.length) := by
            have h := HRT.out
            unfold Inst.right at h
            simp only at h
            omega
          have hx2 : fx = (fx.toNat : Int) := by omega
          have hy2 : fy = (fy.toNat : Int) := by omega
          have hxl : fx.toNat < 100000 := by omega
          have hyl : fy.toNat < 100000 := by omega
          have HLN0 : Hid (restOf ⟨2, fset, fx, fy⟩ = 32 :: (dec fx.toNat ++ 32 :: dec fy.toNat)) := rfl
          have hd1 : (bs (dec fx.toNat)).size ≤ 5 := by rw [bs_size]; exact dec_len hxl
          have hd2 : (bs (dec fy.toNat)).size ≤ 5 := by rw [bs_size]; exact dec_len hyl
          have hd1l : (dec fx.toNat).length ≤ 5 := dec_len hxl
          have hd2l : (dec fy.toNat).length ≤ 5 := dec_len hyl
          have HFX := hid (fun (y : World) (hy : Below bb w2 y) => Format_any fx.toNat y hxl (HT2.out.below hy (by omega)))
          have HFY := hid (fun (y : World) (hy : Below bb w2 y) => Format_any fy.toNat y hyl (HT2.out.below hy (by omega)))
          have HLN : Hid (l1 ++ 32 :: (dec fx.toNat ++ 32 :: dec fy.toNat) ++ [10] = l ++ lineOf k ⟨2, fset, fx, fy⟩) := by
            show _ = _
            rw [← HL1.out]
            show l ++ (dec k ++ [32, 115, 112, 108, 105, 116]) ++ 32 :: (dec fx.toNat ++ 32 :: dec fy.toNat) ++ [10] = l ++ (dec k ++ 32 :: ([115, 112, 108, 105, 116] ++ ((32 :: (dec fx.toNat ++ 32 :: dec fy.toNat)) ++ [10])))
            simp
          have HTX : Hid ((⟨#[32]⟩ : ByteArray) ++ bs (dec fx.toNat) ++ (⟨#[32]⟩ : ByteArray) ++ bs (dec fy.toNat) = bs (32 :: (dec fx.toNat ++ 32 :: dec fy.toNat))) := by
            show bs [32] ++ bs (dec fx.toNat) ++ bs [32] ++ bs (dec fy.toNat) = _
            rw [bs_app, bs_app, bs_app]
            congr 1
            simp
          generalize fx.toNat = xn at *
          generalize fy.toNat = yn at *
          generalize lineOf k ⟨2, fset, fx, fy⟩ = ln at *
          generalize hfx : fx = fxv at *
          generalize hfy : fy = fyv at *
          subst hx2 hy2
          go_upto_region 14 with fail
          have HC := hid (fun (x : World) (hx : Grow w5.drew x) => (show (x.cell? ⟨bx, 5, none⟩ = some (.int .i64 xn) ∧ x.cell? ⟨bx, 6, none⟩ = some (.int .i64 yn)) from by
            have h := HRX.out.below (show Below w5.heap.size w5 x from ⟨hx.os, hx.tape, hx.output, hx.size, hx.block⟩) HRX.out.lt
            exact ⟨h.cell 5, h.cell 6⟩))
          have HBY := hid (fun (x : World) (hx : Grow w5.drew x) => HW5.out.trans ((show Below w5.heap.size w5 x from ⟨hx.os, hx.tape, hx.output, hx.size, hx.block⟩).mono HBS5.out))
          clear q6
          refine wp_region_inv 9 (Grow) (by kernel_rfl) (by kernel_rfl) (Grow.refl) (fun _ _ _ => Grow.trans) ?_
          simp only [fill, dstOf, Act.put, List.take_succ_cons, List.take_zero, List.getElem?_toArray, List.getElem?_cons_zero, List.getElem?_cons_succ, Option.bind_some, List.setIfInBounds_toArray, List.set_cons_zero, List.set_cons_succ]
          refine Plan.det 1 rfl (Grow.refl) ?_
          apply Exists.intro
          refine ⟨fun vs x hR hF K hK => ?_, ?_⟩
          · clear hF
            go_simp
            exact hK _ _ (Grow.refl _) rfl
          refine Plan.det 2 rfl (Grow.refl) ?_
          apply Exists.intro
          refine ⟨fun vs x hR hF K hK => ?_, ?_⟩
          · have f0 := hF 0 _ _ rfl rfl; have hc := HC.out x hR; clear hF
            go_simp
            exact hK _ _ (Grow.refl _) rfl
          refine Plan.det 3 rfl (Grow.refl) ?_
          apply Exists.intro
          refine ⟨fun vs x hR hF K hK => ?_, ?_⟩
          · have f1 := hF 0 _ _ rfl rfl; clear hF
            go_simp
            refine (HFX.out x (HBY.out x hR)).mono ?_
            rintro e x1 ⟨rfl, hbe⟩
            exact ⟨_, rfl, hK _ _ hbe rfl⟩
          refine Plan.det 4 rfl (Grow.refl) ?_
          apply Exists.intro
          refine ⟨fun vs x hR hF K hK => ?_, ?_⟩
          · have f2 := hF 0 _ _ rfl rfl; clear hF
            go_simp
            rw [if_neg (by omega)]
            exact hK _ _ (Grow.refl _) rfl
          refine Plan.det 5 rfl (Grow.refl) ?_
          apply Exists.intro
          refine ⟨fun vs x hR hF K hK => ?_, ?_⟩
          · have f3 := hF 0 _ _ rfl rfl; clear hF
            go_simp
            rw [if_neg (by omega)]
            exact hK _ _ (Grow.refl _) rfl
          refine Plan.det 6 rfl (Grow.refl) ?_
          apply Exists.intro
          refine ⟨fun vs x hR hF K hK => ?_, ?_⟩
          · clear hF
            go_simp
            exact hK _ _ (Grow.refl _) rfl
          refine Plan.det 7 rfl (Grow.refl) ?_
          apply Exists.intro
          refine ⟨fun vs x hR hF K hK => ?_, ?_⟩
          · have f5 := hF 0 _ _ rfl rfl; have hc := HC.out x hR; clear hF
            go_simp
            exact hK _ _ (Grow.refl _) rfl
          refine Plan.det 8 rfl (Grow.refl) ?_
          apply Exists.intro
          refine ⟨fun vs x hR hF K hK => ?_, ?_⟩
          · have f2 := hF 4 _ _ rfl rfl; have f6 := hF 0 _ _ rfl rfl; clear hF
            go_simp
            refine (HFY.out x (HBY.out x hR)).mono ?_
            rintro e x1 ⟨rfl, hbe⟩
            exact ⟨_, rfl, hK _ _ hbe rfl⟩
          refine Plan.det 9 rfl (Grow.refl) ?_
          apply Exists.intro
          refine ⟨fun vs x hR hF K hK => ?_, ?_⟩
          · have f4 := hF 3 _ _ rfl rfl; have f7 := hF 0 _ _ rfl rfl; clear hF
            go_simp
            rw [if_neg (by omega)]
            exact hK _ _ (Grow.refl _) rfl
          refine Plan.nil (fun vs x hR hF => ?_)
          have f0 := hF 8 _ _ rfl; have f1 := hF 7 _ _ rfl; have f2 := hF 6 _ _ rfl; have f3 := hF 5 _ _ rfl; have f4 := hF 4 _ _ rfl; have f5 := hF 3 _ _ rfl; have f6 := hF 2 _ _ rfl; have f7 := hF 1 _ _ rfl; have f8 := hF 0 _ _ rfl
          clear hF
          simp only [f0, f1, f2, f3, f4, f5, f6, f7, f8]
          clear f0 f1 f2 f3 f4 f5 f6 f7 f8
          simp only [List.drop_succ_cons, List.drop_zero]
          have hbx6 : Below w5.heap.size w5 x := ⟨hR.os, hR.tape, hR.output, hR.size, hR.block⟩
          have HD6 := hid (HD5.out.more hbx6)
          have HW6 := hid (HBY.out x hR)
          clear HC hR hbx6 HBY HFX HFY
          rw [HTX.out]
          have hrl : (bs (32 :: (dec xn ++ 32 :: dec yn))).size ≤ 12 := by rw [bs_size]; simp only [List.length_cons, List.length_append]; omega
          go_wp2_with fail
          refine (WriteString_any bb bb l1 (bs (32 :: (dec xn ++ 32 :: dec yn))) _ HD6.out (by omega) HD6.out.base).mono ?_
          rintro e w7 ⟨rfl, hd7, hb7, -⟩
          rw [bs_list] at hd7
          have HD7 := hid hd7
          have HW7 := hid (HW6.out.trans (hb7.mono (Nat.le_refl _)))
          have hl7 : (l1 ++ 32 :: (dec xn ++ 32 :: dec yn)).length ≤ 30000000 := by simp only [List.length_cons, List.length_append]; omega
          clear hd7 hb7
          go_wp2_with fail
          refine (WriteByte_any bb bb (l1 ++ 32 :: (dec xn ++ 32 :: dec yn)) 10 _ HD7.out (by omega) HD7.out.base).mono ?_
          rintro e w9 ⟨rfl, hd9, hb9, -⟩
          rw [HLN.out] at hd9
          have HD9 := hid hd9
          have HW9 := hid (HW7.out.trans (hb9.mono (Nat.le_refl _)))
          clear hd9 hb9
          go_wp2_with fail
          all_goals
            refine ⟨⟨k + 1, l ++ ln, hlt, HLE.out, rfl, ?_, HD9.out, HW9.out⟩, ?_⟩
            · show _ = _
              rw [HPT.out, HL.out, List.append_assoc]
            · show L.length - ((k : Int) + 1).toNat < L.length - (k : Int).toNat
              omega
        · have HC := hid (fun (x : World) (hx : Grow w8.drew x) => (show x.cell? ⟨bx, 0, none⟩ = some (.int .i64 3) ∧ x.cell? ⟨0, 3, none⟩ = some (.string ⟨#[106, 117, 109, 112]⟩) from
            ⟨(HRW.out.below (show Below w8.heap.size w8 x from ⟨hx.os, hx.tape, hx.output, hx.size, hx.block⟩) HRW.out.lt).cell 0, name_cell (HT2.out.below (HBY.out x hx) (by omega)) 3 _ rfl⟩))
          refine wp_region_inv 8 (Grow) (by kernel_rfl) (by kernel_rfl) (Grow.refl) (fun _ _ _ => Grow.trans) ?_
          simp only [fill, dstOf, Act.put, List.take_succ_cons, List.take_zero, List.getElem?_toArray, List.getElem?_cons_zero, List.getElem?_cons_succ, Option.bind_some, List.setIfInBounds_toArray, List.set_cons_zero, List.set_cons_succ]
          refine Plan.det 1 rfl (Grow.refl) ?_
          apply Exists.intro
          refine ⟨fun vs x hR hF K hK => ?_, ?_⟩
          · clear hF
            go_simp
            exact hK _ _ (Grow.refl _) rfl
          refine Plan.det 2 rfl (Grow.refl) ?_
          apply Exists.intro
          refine ⟨fun vs x hR hF K hK => ?_, ?_⟩
          · have f0 := hF 0 _ _ rfl rfl; clear hF
            go_simp
            refine (HFM.out x (HBY.out x hR)).mono ?_
            rintro e x1 ⟨rfl, hbe⟩
            exact ⟨_, rfl, hK _ _ hbe rfl⟩
          refine Plan.det 3 rfl (Grow.refl) ?_
          apply Exists.intro
          refine ⟨fun vs x hR hF K hK => ?_, ?_⟩
          · have f1 := hF 0 _ _ rfl rfl; clear hF
            go_simp
            rw [if_neg (by omega)]
            exact hK _ _ (Grow.refl _) rfl
          refine Plan.det 4 rfl (Grow.refl) ?_
          apply Exists.intro
          refine ⟨fun vs x hR hF K hK => ?_, ?_⟩
          · clear hF
            go_simp
            exact hK _ _ (Grow.refl _) rfl
          refine Plan.det 5 rfl (Grow.refl) ?_
          apply Exists.intro
          refine ⟨fun vs x hR hF K hK => ?_, ?_⟩
          · have f3 := hF 0 _ _ rfl rfl; have hc := HC.out x hR; clear hF
            go_simp
            exact hK _ _ (Grow.refl _) rfl
          refine Plan.det 6 rfl (Grow.refl) ?_
          apply Exists.intro
          refine ⟨fun vs x hR hF K hK => ?_, ?_⟩
          · have f4 := hF 0 _ _ rfl rfl; clear hF
            go_simp
            exact hK _ _ (Grow.refl _) rfl
          refine Plan.det 7 rfl (Grow.refl) ?_
          apply Exists.intro
          refine ⟨fun vs x hR hF K hK => ?_, ?_⟩
          · have f5 := hF 0 _ _ rfl rfl; have hc := HC.out x hR; clear hF
            go_simp
            exact hK _ _ (Grow.refl _) rfl
          refine Plan.det 8 rfl (Grow.refl) ?_
          apply Exists.intro
          refine ⟨fun vs x hR hF K hK => ?_, ?_⟩
          · have f2 := hF 4 _ _ rfl rfl; have f6 := hF 0 _ _ rfl rfl; clear hF
            go_simp
            rw [if_neg (by omega)]
            exact hK _ _ (Grow.refl _) rfl
          refine Plan.nil (fun vs x hR hF => ?_)
          have f0 := hF 7 _ _ rfl; have f1 := hF 6 _ _ rfl; have f2 := hF 5 _ _ rfl; have f3 := hF 4 _ _ rfl; have f4 := hF 3 _ _ rfl; have f5 := hF 2 _ _ rfl; have f6 := hF 1 _ _ rfl; have f7 := hF 0 _ _ rfl
          clear hF
          simp only [f0, f1, f2, f3, f4, f5, f6, f7]
          clear f0 f1 f2 f3 f4 f5 f6 f7
          simp only [List.drop_succ_cons, List.drop_zero]
          have hbx5 : Below w8.heap.size w8 x := ⟨hR.os, hR.tape, hR.output, hR.size, hR.block⟩
          have HDx := hid (HD8.out.more hbx5)
          have HWx := hid (HBY.out x hR)
          have HRx := hid (HRW.out.below hbx5 HRW.out.lt)
          have HS1 : Hid (bs (dec k) ++ (⟨#[32]⟩ : ByteArray) ++ (⟨#[106, 117, 109, 112]⟩ : ByteArray) = bs (dec k ++ [32, 106, 117, 109, 112])) := by
            show bs (dec k) ++ bs [32] ++ bs [106, 117, 109, 112] = _
            rw [bs_app, bs_app]
            congr 1
            simp
          have hs1l : (dec k ++ [32, 106, 117, 109, 112] : List UInt8).length ≤ 12 := by simp only [List.length_append, List.length_cons, List.length_nil]; omega
          have hs1 : (bs (dec k ++ [32, 106, 117, 109, 112])).size ≤ 12 := by rw [bs_size]; exact hs1l
          clear HC hR hbx5 HBY HFM
          rw [HS1.out]
          go_wp2_with fail
          refine (WriteString_any bb bb l (bs (dec k ++ [32, 106, 117, 109, 112])) _ HDx.out (by omega) HDx.out.base).mono ?_
          rintro e w5 ⟨rfl, hd5, hb5, ho5⟩
          rw [bs_list] at hd5
          have hl1 : (l ++ (dec k ++ [32, 106, 117, 109, 112])).length ≤ 20000000 := by rw [List.length_append]; omega
          obtain ⟨l1, hg1⟩ : ∃ l1, l1 = l ++ (dec k ++ [32, 106, 117, 109, 112]) := ⟨_, rfl⟩
          rw [← hg1] at hd5 hl1
          have HL1 := hid hg1.symm
          clear hg1
          have HD5 := hid hd5
          have HW5 := hid (HWx.out.trans (hb5.mono (Nat.le_refl _)))
          have HRX := hid (HRx.out.oth ho5 (HRx.out.ne_bd HDx.out (by decide)) (by decide))
          have HBS5 : Hid (bb ≤ w5.heap.size) := HD5.out.base
          clear hd5 hb5 ho5 HDx HRx HWx
          have q6 := row7 HRX.out
          obtain hx : 0 ≤ fx ∧ fx < L.length := by
            have h := HRT.out
            unfold Inst.right at h
            simp only at h
            omega
          have hx2 : fx = (fx.toNat : Int) := by omega
          have hxl : fx.toNat < 100000 := by omega
          have hd1 : (bs (dec fx.toNat)).size ≤ 5 := by rw [bs_size]; exact dec_len hxl
          have hd1l : (dec fx.toNat).length ≤ 5 := dec_len hxl
          have HFX := hid (Format_any fx.toNat w5 hxl (HT2.out.below HW5.out (by omega)))
          have HLN : Hid (l1 ++ 32 :: dec fx.toNat ++ [10] = l ++ lineOf k ⟨3, fset, fx, fy⟩) := by
            show _ = _
            rw [← HL1.out]
            show l ++ (dec k ++ [32, 106, 117, 109, 112]) ++ 32 :: dec fx.toNat ++ [10] = l ++ (dec k ++ 32 :: ([106, 117, 109, 112] ++ ((32 :: dec fx.toNat) ++ [10])))
            simp
          have HTX : Hid ((⟨#[32]⟩ : ByteArray) ++ bs (dec fx.toNat) = bs (32 :: dec fx.toNat)) := by
            show bs [32] ++ bs (dec fx.toNat) = _
            rw [bs_app]
            rfl
          generalize lineOf k ⟨3, fset, fx, fy⟩ = ln at *
          generalize fx.toNat = xn at *
          subst hx2
          go_wp2_with fail
          refine HFX.out.mono ?_
          rintro e w6 ⟨rfl, hb6⟩
          have HD6 := hid (HD5.out.more hb6)
          have HW6 := hid (HW5.out.trans (hb6.mono HBS5.out))
          clear hb6 HFX q6
          have hrl : (bs (32 :: dec xn)).size ≤ 12 := by rw [bs_size]; simp only [List.length_cons]; omega
          go_wp2_with fail
          rw [HTX.out]
          refine (WriteString_any bb bb l1 (bs (32 :: dec xn)) _ HD6.out (by omega) HD6.out.base).mono ?_
          rintro e w7 ⟨rfl, hd7, hb7, -⟩
          rw [bs_list] at hd7
          have HD7 := hid hd7
          have HW7 := hid (HW6.out.trans (hb7.mono (Nat.le_refl _)))
          have hl7 : (l1 ++ 32 :: dec xn).length ≤ 30000000 := by simp only [List.length_cons, List.length_append]; omega
          clear hd7 hb7
          go_wp2_with fail
          refine (WriteByte_any bb bb (l1 ++ 32 :: dec xn) 10 _ HD7.out (by omega) HD7.out.base).mono ?_
          rintro e w9 ⟨rfl, hd9, hb9, -⟩
          rw [HLN.out] at hd9
          have HD9 := hid hd9
          have HW9 := hid (HW7.out.trans (hb9.mono (Nat.le_refl _)))
          clear hd9 hb9
          go_wp2_with fail
          all_goals
            refine ⟨⟨k + 1, l ++ ln, hlt, HLE.out, rfl, ?_, HD9.out, HW9.out⟩, ?_⟩
            · show _ = _
              rw [HPT.out, HL.out, List.append_assoc]
            · show L.length - ((k : Int) + 1).toNat < L.length - (k : Int).toNat
              omega
        · have HC := hid (fun (x : World) (hx : Grow w8.drew x) => (show x.cell? ⟨bx, 0, none⟩ = some (.int .i64 4) ∧ x.cell? ⟨0, 4, none⟩ = some (.string ⟨#[98, 101, 103, 105, 110]⟩) from
            ⟨(HRW.out.below (show Below w8.heap.size w8 x from ⟨hx.os, hx.tape, hx.output, hx.size, hx.block⟩) HRW.out.lt).cell 0, name_cell (HT2.out.below (HBY.out x hx) (by omega)) 4 _ rfl⟩))
          refine wp_region_inv 8 (Grow) (by kernel_rfl) (by kernel_rfl) (Grow.refl) (fun _ _ _ => Grow.trans) ?_
          simp only [fill, dstOf, Act.put, List.take_succ_cons, List.take_zero, List.getElem?_toArray, List.getElem?_cons_zero, List.getElem?_cons_succ, Option.bind_some, List.setIfInBounds_toArray, List.set_cons_zero, List.set_cons_succ]
          refine Plan.det 1 rfl (Grow.refl) ?_
          apply Exists.intro
          refine ⟨fun vs x hR hF K hK => ?_, ?_⟩
          · clear hF
            go_simp
            exact hK _ _ (Grow.refl _) rfl
          refine Plan.det 2 rfl (Grow.refl) ?_
          apply Exists.intro
          refine ⟨fun vs x hR hF K hK => ?_, ?_⟩
          · have f0 := hF 0 _ _ rfl rfl; clear hF
            go_simp
            refine (HFM.out x (HBY.out x hR)).mono ?_
            rintro e x1 ⟨rfl, hbe⟩
            exact ⟨_, rfl, hK _ _ hbe rfl⟩
          refine Plan.det 3 rfl (Grow.refl) ?_
          apply Exists.intro
          refine ⟨fun vs x hR hF K hK => ?_, ?_⟩
          · have f1 := hF 0 _ _ rfl rfl; clear hF
            go_simp
            rw [if_neg (by omega)]
            exact hK _ _ (Grow.refl _) rfl
          refine Plan.det 4 rfl (Grow.refl) ?_
          apply Exists.intro
          refine ⟨fun vs x hR hF K hK => ?_, ?_⟩
          · clear hF
            go_simp
            exact hK _ _ (Grow.refl _) rfl
          refine Plan.det 5 rfl (Grow.refl) ?_
          apply Exists.intro
          refine ⟨fun vs x hR hF K hK => ?_, ?_⟩
          · have f3 := hF 0 _ _ rfl rfl; have hc := HC.out x hR; clear hF
            go_simp
            exact hK _ _ (Grow.refl _) rfl
          refine Plan.det 6 rfl (Grow.refl) ?_
          apply Exists.intro
          refine ⟨fun vs x hR hF K hK => ?_, ?_⟩
          · have f4 := hF 0 _ _ rfl rfl; clear hF
            go_simp
            exact hK _ _ (Grow.refl _) rfl
          refine Plan.det 7 rfl (Grow.refl) ?_
          apply Exists.intro
          refine ⟨fun vs x hR hF K hK => ?_, ?_⟩
          · have f5 := hF 0 _ _ rfl rfl; have hc := HC.out x hR; clear hF
            go_simp
            exact hK _ _ (Grow.refl _) rfl
          refine Plan.det 8 rfl (Grow.refl) ?_
          apply Exists.intro
          refine ⟨fun vs x hR hF K hK => ?_, ?_⟩
          · have f2 := hF 4 _ _ rfl rfl; have f6 := hF 0 _ _ rfl rfl; clear hF
            go_simp
            rw [if_neg (by omega)]
            exact hK _ _ (Grow.refl _) rfl
          refine Plan.nil (fun vs x hR hF => ?_)
          have f0 := hF 7 _ _ rfl; have f1 := hF 6 _ _ rfl; have f2 := hF 5 _ _ rfl; have f3 := hF 4 _ _ rfl; have f4 := hF 3 _ _ rfl; have f5 := hF 2 _ _ rfl; have f6 := hF 1 _ _ rfl; have f7 := hF 0 _ _ rfl
          clear hF
          simp only [f0, f1, f2, f3, f4, f5, f6, f7]
          clear f0 f1 f2 f3 f4 f5 f6 f7
          simp only [List.drop_succ_cons, List.drop_zero]
          have hbx5 : Below w8.heap.size w8 x := ⟨hR.os, hR.tape, hR.output, hR.size, hR.block⟩
          have HDx := hid (HD8.out.more hbx5)
          have HWx := hid (HBY.out x hR)
          have HRx := hid (HRW.out.below hbx5 HRW.out.lt)
          have HS1 : Hid (bs (dec k) ++ (⟨#[32]⟩ : ByteArray) ++ (⟨#[98, 101, 103, 105, 110]⟩ : ByteArray) = bs (dec k ++ [32, 98, 101, 103, 105, 110])) := by
            show bs (dec k) ++ bs [32] ++ bs [98, 101, 103, 105, 110] = _
            rw [bs_app, bs_app]
            congr 1
            simp
          have hs1l : (dec k ++ [32, 98, 101, 103, 105, 110] : List UInt8).length ≤ 12 := by simp only [List.length_append, List.length_cons, List.length_nil]; omega
          have hs1 : (bs (dec k ++ [32, 98, 101, 103, 105, 110])).size ≤ 12 := by rw [bs_size]; exact hs1l
          clear HC hR hbx5 HBY HFM
          rw [HS1.out]
          go_wp2_with fail
          refine (WriteString_any bb bb l (bs (dec k ++ [32, 98, 101, 103, 105, 110])) _ HDx.out (by omega) HDx.out.base).mono ?_
          rintro e w5 ⟨rfl, hd5, hb5, ho5⟩
          rw [bs_list] at hd5
          have hl1 : (l ++ (dec k ++ [32, 98, 101, 103, 105, 110])).length ≤ 20000000 := by rw [List.length_append]; omega
          obtain ⟨l1, hg1⟩ : ∃ l1, l1 = l ++ (dec k ++ [32, 98, 101, 103, 105, 110]) := ⟨_, rfl⟩
          rw [← hg1] at hd5 hl1
          have HL1 := hid hg1.symm
          clear hg1
          have HD5 := hid hd5
          have HW5 := hid (HWx.out.trans (hb5.mono (Nat.le_refl _)))
          have HRX := hid (HRx.out.oth ho5 (HRx.out.ne_bd HDx.out (by decide)) (by decide))
          have HBS5 : Hid (bb ≤ w5.heap.size) := HD5.out.base
          clear hd5 hb5 ho5 HDx HRx HWx
          have q6 := row7 HRX.out
          have HLN : Hid (l1 ++ [10] = l ++ lineOf k ⟨4, fset, fx, fy⟩) := by
            show _ = _
            rw [← HL1.out]
            show l ++ (dec k ++ [32, 98, 101, 103, 105, 110]) ++ [10] = l ++ (dec k ++ 32 :: ([98, 101, 103, 105, 110] ++ ([] ++ [10])))
            simp
          have HD7 := HD5
          have HW7 := HW5
          have hl7 : l1.length ≤ 30000000 := by omega
          go_wp2_with fail
          refine (WriteByte_any bb bb (l1) 10 _ HD7.out (by omega) HD7.out.base).mono ?_
          rintro e w9 ⟨rfl, hd9, hb9, -⟩
          rw [HLN.out] at hd9
          have HD9 := hid hd9
          have HW9 := hid (HW7.out.trans (hb9.mono (Nat.le_refl _)))
          clear hd9 hb9
          go_wp2_with fail
          all_goals
            refine ⟨⟨k + 1, l ++ lineOf k ⟨4, fset, fx, fy⟩, hlt, HLE.out, rfl, ?_, HD9.out, HW9.out⟩, ?_⟩
            · show _ = _
              rw [HPT.out, HL.out, List.append_assoc]
            · show L.length - ((k : Int) + 1).toNat < L.length - (k : Int).toNat
              omega
        · have HC := hid (fun (x : World) (hx : Grow w8.drew x) => (show x.cell? ⟨bx, 0, none⟩ = some (.int .i64 5) ∧ x.cell? ⟨0, 5, none⟩ = some (.string ⟨#[101, 110, 100]⟩) from
            ⟨(HRW.out.below (show Below w8.heap.size w8 x from ⟨hx.os, hx.tape, hx.output, hx.size, hx.block⟩) HRW.out.lt).cell 0, name_cell (HT2.out.below (HBY.out x hx) (by omega)) 5 _ rfl⟩))
          refine wp_region_inv 8 (Grow) (by kernel_rfl) (by kernel_rfl) (Grow.refl) (fun _ _ _ => Grow.trans) ?_
          simp only [fill, dstOf, Act.put, List.take_succ_cons, List.take_zero, List.getElem?_toArray, List.getElem?_cons_zero, List.getElem?_cons_succ, Option.bind_some, List.setIfInBounds_toArray, List.set_cons_zero, List.set_cons_succ]
          refine Plan.det 1 rfl (Grow.refl) ?_
          apply Exists.intro
          refine ⟨fun vs x hR hF K hK => ?_, ?_⟩
          · clear hF
            go_simp
            exact hK _ _ (Grow.refl _) rfl
          refine Plan.det 2 rfl (Grow.refl) ?_
          apply Exists.intro
          refine ⟨fun vs x hR hF K hK => ?_, ?_⟩
          · have f0 := hF 0 _ _ rfl rfl; clear hF
            go_simp
            refine (HFM.out x (HBY.out x hR)).mono ?_
            rintro e x1 ⟨rfl, hbe⟩
            exact ⟨_, rfl, hK _ _ hbe rfl⟩
          refine Plan.det 3 rfl (Grow.refl) ?_
          apply Exists.intro
          refine ⟨fun vs x hR hF K hK => ?_, ?_⟩
          · have f1 := hF 0 _ _ rfl rfl; clear hF
            go_simp
            rw [if_neg (by omega)]
            exact hK _ _ (Grow.refl _) rfl
          refine Plan.det 4 rfl (Grow.refl) ?_
          apply Exists.intro
          refine ⟨fun vs x hR hF K hK => ?_, ?_⟩
          · clear hF
            go_simp
            exact hK _ _ (Grow.refl _) rfl
          refine Plan.det 5 rfl (Grow.refl) ?_
          apply Exists.intro
          refine ⟨fun vs x hR hF K hK => ?_, ?_⟩
          · have f3 := hF 0 _ _ rfl rfl; have hc := HC.out x hR; clear hF
            go_simp
            exact hK _ _ (Grow.refl _) rfl
          refine Plan.det 6 rfl (Grow.refl) ?_
          apply Exists.intro
          refine ⟨fun vs x hR hF K hK => ?_, ?_⟩
          · have f4 := hF 0 _ _ rfl rfl; clear hF
            go_simp
            exact hK _ _ (Grow.refl _) rfl
          refine Plan.det 7 rfl (Grow.refl) ?_
          apply Exists.intro
          refine ⟨fun vs x hR hF K hK => ?_, ?_⟩
          · have f5 := hF 0 _ _ rfl rfl; have hc := HC.out x hR; clear hF
            go_simp
            exact hK _ _ (Grow.refl _) rfl
          refine Plan.det 8 rfl (Grow.refl) ?_
          apply Exists.intro
          refine ⟨fun vs x hR hF K hK => ?_, ?_⟩
          · have f2 := hF 4 _ _ rfl rfl; have f6 := hF 0 _ _ rfl rfl; clear hF
            go_simp
            rw [if_neg (by omega)]
            exact hK _ _ (Grow.refl _) rfl
          refine Plan.nil (fun vs x hR hF => ?_)
          have f0 := hF 7 _ _ rfl; have f1 := hF 6 _ _ rfl; have f2 := hF 5 _ _ rfl; have f3 := hF 4 _ _ rfl; have f4 := hF 3 _ _ rfl; have f5 := hF 2 _ _ rfl; have f6 := hF 1 _ _ rfl; have f7 := hF 0 _ _ rfl
          clear hF
          simp only [f0, f1, f2, f3, f4, f5, f6, f7]
          clear f0 f1 f2 f3 f4 f5 f6 f7
          simp only [List.drop_succ_cons, List.drop_zero]
          have hbx5 : Below w8.heap.size w8 x := ⟨hR.os, hR.tape, hR.output, hR.size, hR.block⟩
          have HDx := hid (HD8.out.more hbx5)
          have HWx := hid (HBY.out x hR)
          have HRx := hid (HRW.out.below hbx5 HRW.out.lt)
          have HS1 : Hid (bs (dec k) ++ (⟨#[32]⟩ : ByteArray) ++ (⟨#[101, 110, 100]⟩ : ByteArray) = bs (dec k ++ [32, 101, 110, 100])) := by
            show bs (dec k) ++ bs [32] ++ bs [101, 110, 100] = _
            rw [bs_app, bs_app]
            congr 1
            simp
          have hs1l : (dec k ++ [32, 101, 110, 100] : List UInt8).length ≤ 12 := by simp only [List.length_append, List.length_cons, List.length_nil]; omega
          have hs1 : (bs (dec k ++ [32, 101, 110, 100])).size ≤ 12 := by rw [bs_size]; exact hs1l
          clear HC hR hbx5 HBY HFM
          rw [HS1.out]
          go_wp2_with fail
          refine (WriteString_any bb bb l (bs (dec k ++ [32, 101, 110, 100])) _ HDx.out (by omega) HDx.out.base).mono ?_
          rintro e w5 ⟨rfl, hd5, hb5, ho5⟩
          rw [bs_list] at hd5
          have hl1 : (l ++ (dec k ++ [32, 101, 110, 100])).length ≤ 20000000 := by rw [List.length_append]; omega
          obtain ⟨l1, hg1⟩ : ∃ l1, l1 = l ++ (dec k ++ [32, 101, 110, 100]) := ⟨_, rfl⟩
          rw [← hg1] at hd5 hl1
          have HL1 := hid hg1.symm
          clear hg1
          have HD5 := hid hd5
          have HW5 := hid (HWx.out.trans (hb5.mono (Nat.le_refl _)))
          have HRX := hid (HRx.out.oth ho5 (HRx.out.ne_bd HDx.out (by decide)) (by decide))
          have HBS5 : Hid (bb ≤ w5.heap.size) := HD5.out.base
          clear hd5 hb5 ho5 HDx HRx HWx
          have q6 := row7 HRX.out
          have HLN : Hid (l1 ++ [10] = l ++ lineOf k ⟨5, fset, fx, fy⟩) := by
            show _ = _
            rw [← HL1.out]
            show l ++ (dec k ++ [32, 101, 110, 100]) ++ [10] = l ++ (dec k ++ 32 :: ([101, 110, 100] ++ ([] ++ [10])))
            simp
          have HD7 := HD5
          have HW7 := HW5
          have hl7 : l1.length ≤ 30000000 := by omega
          go_wp2_with fail
          refine (WriteByte_any bb bb (l1) 10 _ HD7.out (by omega) HD7.out.base).mono ?_
          rintro e w9 ⟨rfl, hd9, hb9, -⟩
          rw [HLN.out] at hd9
          have HD9 := hid hd9
          have HW9 := hid (HW7.out.trans (hb9.mono (Nat.le_refl _)))
          clear hd9 hb9
          go_wp2_with fail
          all_goals
            refine ⟨⟨k + 1, l ++ lineOf k ⟨5, fset, fx, fy⟩, hlt, HLE.out, rfl, ?_, HD9.out, HW9.out⟩, ?_⟩
            · show _ = _
              rw [HPT.out, HL.out, List.append_assoc]
            · show L.length - ((k : Int) + 1).toNat < L.length - (k : Int).toNat
              omega
        · have HC := hid (fun (x : World) (hx : Grow w8.drew x) => (show x.cell? ⟨bx, 0, none⟩ = some (.int .i64 6) ∧ x.cell? ⟨0, 6, none⟩ = some (.string ⟨#[109, 97, 116, 99, 104]⟩) from
            ⟨(HRW.out.below (show Below w8.heap.size w8 x from ⟨hx.os, hx.tape, hx.output, hx.size, hx.block⟩) HRW.out.lt).cell 0, name_cell (HT2.out.below (HBY.out x hx) (by omega)) 6 _ rfl⟩))
          refine wp_region_inv 8 (Grow) (by kernel_rfl) (by kernel_rfl) (Grow.refl) (fun _ _ _ => Grow.trans) ?_
          simp only [fill, dstOf, Act.put, List.take_succ_cons, List.take_zero, List.getElem?_toArray, List.getElem?_cons_zero, List.getElem?_cons_succ, Option.bind_some, List.setIfInBounds_toArray, List.set_cons_zero, List.set_cons_succ]
          refine Plan.det 1 rfl (Grow.refl) ?_
          apply Exists.intro
          refine ⟨fun vs x hR hF K hK => ?_, ?_⟩
          · clear hF
            go_simp
            exact hK _ _ (Grow.refl _) rfl
          refine Plan.det 2 rfl (Grow.refl) ?_
          apply Exists.intro
          refine ⟨fun vs x hR hF K hK => ?_, ?_⟩
          · have f0 := hF 0 _ _ rfl rfl; clear hF
            go_simp
            refine (HFM.out x (HBY.out x hR)).mono ?_
            rintro e x1 ⟨rfl, hbe⟩
            exact ⟨_, rfl, hK _ _ hbe rfl⟩
          refine Plan.det 3 rfl (Grow.refl) ?_
          apply Exists.intro
          refine ⟨fun vs x hR hF K hK => ?_, ?_⟩
          · have f1 := hF 0 _ _ rfl rfl; clear hF
            go_simp
            rw [if_neg (by omega)]
            exact hK _ _ (Grow.refl _) rfl
          refine Plan.det 4 rfl (Grow.refl) ?_
          apply Exists.intro
          refine ⟨fun vs x hR hF K hK => ?_, ?_⟩
          · clear hF
            go_simp
            exact hK _ _ (Grow.refl _) rfl
          refine Plan.det 5 rfl (Grow.refl) ?_
          apply Exists.intro
          refine ⟨fun vs x hR hF K hK => ?_, ?_⟩
          · have f3 := hF 0 _ _ rfl rfl; have hc := HC.out x hR; clear hF
            go_simp
            exact hK _ _ (Grow.refl _) rfl
          refine Plan.det 6 rfl (Grow.refl) ?_
          apply Exists.intro
          refine ⟨fun vs x hR hF K hK => ?_, ?_⟩
          · have f4 := hF 0 _ _ rfl rfl; clear hF
            go_simp
            exact hK _ _ (Grow.refl _) rfl
          refine Plan.det 7 rfl (Grow.refl) ?_
          apply Exists.intro
          refine ⟨fun vs x hR hF K hK => ?_, ?_⟩
          · have f5 := hF 0 _ _ rfl rfl; have hc := HC.out x hR; clear hF
            go_simp
            exact hK _ _ (Grow.refl _) rfl
          refine Plan.det 8 rfl (Grow.refl) ?_
          apply Exists.intro
          refine ⟨fun vs x hR hF K hK => ?_, ?_⟩
          · have f2 := hF 4 _ _ rfl rfl; have f6 := hF 0 _ _ rfl rfl; clear hF
            go_simp
            rw [if_neg (by omega)]
            exact hK _ _ (Grow.refl _) rfl
          refine Plan.nil (fun vs x hR hF => ?_)
          have f0 := hF 7 _ _ rfl; have f1 := hF 6 _ _ rfl; have f2 := hF 5 _ _ rfl; have f3 := hF 4 _ _ rfl; have f4 := hF 3 _ _ rfl; have f5 := hF 2 _ _ rfl; have f6 := hF 1 _ _ rfl; have f7 := hF 0 _ _ rfl
          clear hF
          simp only [f0, f1, f2, f3, f4, f5, f6, f7]
          clear f0 f1 f2 f3 f4 f5 f6 f7
          simp only [List.drop_succ_cons, List.drop_zero]
          have hbx5 : Below w8.heap.size w8 x := ⟨hR.os, hR.tape, hR.output, hR.size, hR.block⟩
          have HDx := hid (HD8.out.more hbx5)
          have HWx := hid (HBY.out x hR)
          have HRx := hid (HRW.out.below hbx5 HRW.out.lt)
          have HS1 : Hid (bs (dec k) ++ (⟨#[32]⟩ : ByteArray) ++ (⟨#[109, 97, 116, 99, 104]⟩ : ByteArray) = bs (dec k ++ [32, 109, 97, 116, 99, 104])) := by
            show bs (dec k) ++ bs [32] ++ bs [109, 97, 116, 99, 104] = _
            rw [bs_app, bs_app]
            congr 1
            simp
          have hs1l : (dec k ++ [32, 109, 97, 116, 99, 104] : List UInt8).length ≤ 12 := by simp only [List.length_append, List.length_cons, List.length_nil]; omega
          have hs1 : (bs (dec k ++ [32, 109, 97, 116, 99, 104])).size ≤ 12 := by rw [bs_size]; exact hs1l
          clear HC hR hbx5 HBY HFM
          rw [HS1.out]
          go_wp2_with fail
          refine (WriteString_any bb bb l (bs (dec k ++ [32, 109, 97, 116, 99, 104])) _ HDx.out (by omega) HDx.out.base).mono ?_
          rintro e w5 ⟨rfl, hd5, hb5, ho5⟩
          rw [bs_list] at hd5
          have hl1 : (l ++ (dec k ++ [32, 109, 97, 116, 99, 104])).length ≤ 20000000 := by rw [List.length_append]; omega
          obtain ⟨l1, hg1⟩ : ∃ l1, l1 = l ++ (dec k ++ [32, 109, 97, 116, 99, 104]) := ⟨_, rfl⟩
          rw [← hg1] at hd5 hl1
          have HL1 := hid hg1.symm
          clear hg1
          have HD5 := hid hd5
          have HW5 := hid (HWx.out.trans (hb5.mono (Nat.le_refl _)))
          have HRX := hid (HRx.out.oth ho5 (HRx.out.ne_bd HDx.out (by decide)) (by decide))
          have HBS5 : Hid (bb ≤ w5.heap.size) := HD5.out.base
          clear hd5 hb5 ho5 HDx HRx HWx
          have q6 := row7 HRX.out
          have HLN : Hid (l1 ++ [10] = l ++ lineOf k ⟨6, fset, fx, fy⟩) := by
            show _ = _
            rw [← HL1.out]
            show l ++ (dec k ++ [32, 109, 97, 116, 99, 104]) ++ [10] = l ++ (dec k ++ 32 :: ([109, 97, 116, 99, 104] ++ ([] ++ [10])))
            simp
          have HD7 := HD5
          have HW7 := HW5
          have hl7 : l1.length ≤ 30000000 := by omega
          go_wp2_with fail
          refine (WriteByte_any bb bb (l1) 10 _ HD7.out (by omega) HD7.out.base).mono ?_
          rintro e w9 ⟨rfl, hd9, hb9, -⟩
          rw [HLN.out] at hd9
          have HD9 := hid hd9
          have HW9 := hid (HW7.out.trans (hb9.mono (Nat.le_refl _)))
          clear hd9 hb9
          go_wp2_with fail
          all_goals
            refine ⟨⟨k + 1, l ++ lineOf k ⟨6, fset, fx, fy⟩, hlt, HLE.out, rfl, ?_, HD9.out, HW9.out⟩, ?_⟩
            · show _ = _
              rw [HPT.out, HL.out, List.append_assoc]
            · show L.length - ((k : Int) + 1).toNat < L.length - (k : Int).toNat
              omega
      · obtain rfl : k = L.length := by omega
        have HSTR := hid (BString_any bb bb l _ HX.out.1 HX.out.1.base)
        go_wp2_with fail
        refine HSTR.out.mono ?_
        rintro e w9 ⟨rfl, hb9⟩
        have HB9 := hid (HB2.out.trans ((HX.out.2.trans (hb9.mono (Nat.le_refl _))).mono (by rw [← HBB.out]; exact HB2.out.size)))
        clear hb9
        go_wp2_with fail
        all_goals (try go_ret)
        all_goals exact HPY.out _ _ HB9.out HRI.out (by rw [HL.out]; rfl)
  · have HD4 : Hid (Bd bb bb [] w3) := HD3.out
    have HW4 := HA3
    go_wp2_with fail
    go_loopw [15] (fun vk wr => ∃ (k : Nat) (l : List UInt8), k ≤ L.length ∧ l.length ≤ 6 + 4016 * k ∧ vk = .int .i64 k ∧ Hid (l = [] ++ ptext L k) ∧ Hid (Bd bb bb l wr ∧ Below bb w2 wr)) (fun vk _ => L.length - (intOf vk).toNat)
    case atStart => exact ⟨0, [], by omega, by decide, rfl, rfl, HD4.out, HW4.out⟩
    case round =>
      obtain ⟨k, l, hk, hll, rfl, HL, HX⟩ := hrel
      rcases Nat.lt_or_ge k L.length with hlt | hge
      · have HRT := hid (HRI.out.2 k hlt)
        have HLL := lineOf_len L[k] L.length k HRT.out hL hlt
        have HWK := hid (HWF.out k hlt)
        have HPT := hid (ptext_next hlt)
        obtain ⟨fb, fo, hfa, hfb, hfc⟩ := (HI2.out.below HX.out.2 (by rw [HBB.out]; exact Nat.le_refl _)).at hlt
        subst hfa
        have HLE : Hid ((l ++ lineOf k L[k]).length ≤ 6 + 4016 * (k + 1)) := by show _ ≤ _; rw [List.length_append]; omega
        generalize L[k] = ff at *
        obtain ⟨fop, fset, fx, fy⟩ := ff
        have hcase : fop = 1 ∨ fop = 2 ∨ fop = 3 ∨ fop = 4 ∨ fop = 5 ∨ fop = 6 := by
          have h := HRT.out
          unfold Inst.right at h
          simp only at h
          omega
        have qi := cells7 (show CellsAt wr fb (fo + k * 7) [.int .i64 fop, .int .u64 fset.a, .int .u64 fset.b, .int .u64 fset.c, .int .u64 fset.d, .int .i64 fx, .int .i64 fy] from hfc)
        have hkI : (k : Int) < (L.length : Int) := by omega
        have HRW : Hid (Row (wr.alloc (.cells #[.int .i64 fop, .int .u64 fset.a, .int .u64 fset.b, .int .u64 fset.c, .int .u64 fset.d, .int .i64 fx, .int .i64 fy] 35)) wr.heap.size [.int .i64 fop, .int .u64 fset.a, .int .u64 fset.b, .int .u64 fset.c, .int .u64 fset.d, .int .i64 fx, .int .i64 fy] 35) := Row.at wr [.int .i64 fop, .int .u64 fset.a, .int .u64 fset.b, .int .u64 fset.c, .int .u64 fset.d, .int .i64 fx, .int .i64 fy] _
        have HAW : Hid (Below wr.heap.size wr (wr.alloc (.cells #[.int .i64 fop, .int .u64 fset.a, .int .u64 fset.b, .int .u64 fset.c, .int .u64 fset.d, .int .i64 fx, .int .i64 fy] 35))) := Grow.alloc wr _
        have hbw : bb ≤ wr.heap.size := HX.out.1.base
        go_upto_region 9 with fail
        generalize wr.alloc (.cells #[.int .i64 fop, .int .u64 fset.a, .int .u64 fset.b, .int .u64 fset.c, .int .u64 fset.d, .int .i64 fx, .int .i64 fy] 35) = w8 at *
        have HD8 := hid (HX.out.1.more HAW.out)
        have HW8 := hid (HX.out.2.trans (HAW.out.mono hbw))
        generalize wr.heap.size = bx at HRW
        clear hfc qi hfb HX HAW hbw HLL
        have hd0 : (bs (dec k)).size ≤ 5 := by rw [bs_size]; exact dec_len (by omega)
        have hd0l : (dec k).length ≤ 5 := dec_len (by omega)
        have HFM := hid (fun (y : World) (hy : Below bb w2 y) => Format_any k y (by omega) (HT2.out.below hy (by omega)))
        have HBY := hid (fun (x : World) (hx : Grow w8.drew x) => HW8.out.trans ((show Below w8.heap.size w8 x from ⟨hx.os, hx.tape, hx.output, hx.size, hx.block⟩).mono HD8.out.base))
        rcases hcase with rfl | rfl | rfl | rfl | rfl | rfl
        · have HC := hid (fun (x : World) (hx : Grow w8.drew x) => (show x.cell? ⟨bx, 0, none⟩ = some (.int .i64 1) ∧ x.cell? ⟨0, 1, none⟩ = some (.string ⟨#[115, 101, 116]⟩) from
            ⟨(HRW.out.below (show Below w8.heap.size w8 x from ⟨hx.os, hx.tape, hx.output, hx.size, hx.block⟩) HRW.out.lt).cell 0, name_cell (HT2.out.below (HBY.out x hx) (by omega)) 1 _ rfl⟩))
          refine wp_region_inv 8 (Grow) (by kernel_rfl) (by kernel_rfl) (Grow.refl) (fun _ _ _ => Grow.trans) ?_
          simp only [fill, dstOf, Act.put, List.take_succ_cons, List.take_zero, List.getElem?_toArray, List.getElem?_cons_zero, List.getElem?_cons_succ, Option.bind_some, List.setIfInBounds_toArray, List.set_cons_zero, List.set_cons_succ]
          refine Plan.det 1 rfl (Grow.refl) ?_
          apply Exists.intro
          refine ⟨fun vs x hR hF K hK => ?_, ?_⟩
          · clear hF
            go_simp
            exact hK _ _ (Grow.refl _) rfl
          refine Plan.det 2 rfl (Grow.refl) ?_
          apply Exists.intro
          refine ⟨fun vs x hR hF K hK => ?_, ?_⟩
          · have f0 := hF 0 _ _ rfl rfl; clear hF
            go_simp
            refine (HFM.out x (HBY.out x hR)).mono ?_
            rintro e x1 ⟨rfl, hbe⟩
            exact ⟨_, rfl, hK _ _ hbe rfl⟩
          refine Plan.det 3 rfl (Grow.refl) ?_
          apply Exists.intro
          refine ⟨fun vs x hR hF K hK => ?_, ?_⟩
          · have f1 := hF 0 _ _ rfl rfl; clear hF
            go_simp
            rw [if_neg (by omega)]
            exact hK _ _ (Grow.refl _) rfl
          refine Plan.det 4 rfl (Grow.refl) ?_
          apply Exists.intro
          refine ⟨fun vs x hR hF K hK => ?_, ?_⟩
          · clear hF
            go_simp
            exact hK _ _ (Grow.refl _) rfl
          refine Plan.det 5 rfl (Grow.refl) ?_
          apply Exists.intro
          refine ⟨fun vs x hR hF K hK => ?_, ?_⟩
          · have f3 := hF 0 _ _ rfl rfl; have hc := HC.out x hR; clear hF
            go_simp
            exact hK _ _ (Grow.refl _) rfl
          refine Plan.det 6 rfl (Grow.refl) ?_
          apply Exists.intro
          refine ⟨fun vs x hR hF K hK => ?_, ?_⟩
          · have f4 := hF 0 _ _ rfl rfl; clear hF
            go_simp
            exact hK _ _ (Grow.refl _) rfl
          refine Plan.det 7 rfl (Grow.refl) ?_
          apply Exists.intro
          refine ⟨fun vs x hR hF K hK => ?_, ?_⟩
          · have f5 := hF 0 _ _ rfl rfl; have hc := HC.out x hR; clear hF
            go_simp
            exact hK _ _ (Grow.refl _) rfl
          refine Plan.det 8 rfl (Grow.refl) ?_
          apply Exists.intro
          refine ⟨fun vs x hR hF K hK => ?_, ?_⟩
          · have f2 := hF 4 _ _ rfl rfl; have f6 := hF 0 _ _ rfl rfl; clear hF
            go_simp
            rw [if_neg (by omega)]
            exact hK _ _ (Grow.refl _) rfl
          refine Plan.nil (fun vs x hR hF => ?_)
          have f0 := hF 7 _ _ rfl; have f1 := hF 6 _ _ rfl; have f2 := hF 5 _ _ rfl; have f3 := hF 4 _ _ rfl; have f4 := hF 3 _ _ rfl; have f5 := hF 2 _ _ rfl; have f6 := hF 1 _ _ rfl; have f7 := hF 0 _ _ rfl
          clear hF
          simp only [f0, f1, f2, f3, f4, f5, f6, f7]
          clear f0 f1 f2 f3 f4 f5 f6 f7
          simp only [List.drop_succ_cons, List.drop_zero]
          have hbx5 : Below w8.heap.size w8 x := ⟨hR.os, hR.tape, hR.output, hR.size, hR.block⟩
          have HDx := hid (HD8.out.more hbx5)
          have HWx := hid (HBY.out x hR)
          have HRx := hid (HRW.out.below hbx5 HRW.out.lt)
          have HS1 : Hid (bs (dec k) ++ (⟨#[32]⟩ : ByteArray) ++ (⟨#[115, 101, 116]⟩ : ByteArray) = bs (dec k ++ [32, 115, 101, 116])) := by
            show bs (dec k) ++ bs [32] ++ bs [115, 101, 116] = _
            rw [bs_app, bs_app]
            congr 1
            simp
          have hs1l : (dec k ++ [32, 115, 101, 116] : List UInt8).length ≤ 12 := by simp only [List.length_append, List.length_cons, List.length_nil]; omega
          have hs1 : (bs (dec k ++ [32, 115, 101, 116])).size ≤ 12 := by rw [bs_size]; exact hs1l
          clear HC hR hbx5 HBY HFM
          rw [HS1.out]
          go_wp2_with fail
          refine (WriteString_any bb bb l (bs (dec k ++ [32, 115, 101, 116])) _ HDx.out (by omega) HDx.out.base).mono ?_
          rintro e w5 ⟨rfl, hd5, hb5, ho5⟩
          rw [bs_list] at hd5
          have hl1 : (l ++ (dec k ++ [32, 115, 101, 116])).length ≤ 20000000 := by rw [List.length_append]; omega
          obtain ⟨l1, hg1⟩ : ∃ l1, l1 = l ++ (dec k ++ [32, 115, 101, 116]) := ⟨_, rfl⟩
          rw [← hg1] at hd5 hl1
          have HL1 := hid hg1.symm
          clear hg1
          have HD5 := hid hd5
          have HW5 := hid (HWx.out.trans (hb5.mono (Nat.le_refl _)))
          have HRX := hid (HRx.out.oth ho5 (HRx.out.ne_bd HDx.out (by decide)) (by decide))
          have HBS5 : Hid (bb ≤ w5.heap.size) := HD5.out.base
          clear hd5 hb5 ho5 HDx HRx HWx
          have q6 := row7 HRX.out
          have HST := hid (fun (y : World) (hy : Below bb w2 y) => set_any fset y HWK.out (HT2.out.below hy (by omega)) (Nat.le_trans (by have := HBB.out; omega) hy.size))
          have HSX := hid (HST.out _ HW5.out)
          clear HST
          go_wp2_with fail
          refine HSX.out.mono ?_
          rintro e w6 ⟨rfl, hb6⟩
          have HD6 := hid (HD5.out.more hb6)
          have HW6 := hid (HW5.out.trans (hb6.mono HBS5.out))
          have hrl : (bs (rtext fset 256)).size ≤ 3072 := by rw [bs_size]; exact rtext_len fset 256 (by omega)
          clear hb6 HSX q6
          go_wp2_with fail
          refine (WriteString_any bb bb l1 (bs (rtext fset 256)) _ HD6.out (by omega) HD6.out.base).mono ?_
          rintro e w7 ⟨rfl, hd7, hb7, -⟩
          rw [bs_list] at hd7
          have HD7 := hid hd7
          have HW7 := hid (HW6.out.trans (hb7.mono (Nat.le_refl _)))
          have hl7 : (l1 ++ rtext fset 256).length ≤ 30000000 := by rw [List.length_append]; have := rtext_len fset 256 (by omega); omega
          have HLN : Hid (l1 ++ rtext fset 256 ++ [10] = l ++ lineOf k ⟨1, fset, fx, fy⟩) := by
            show _ = _
            rw [← HL1.out]
            show l ++ (dec k ++ [32, 115, 101, 116]) ++ rtext fset 256 ++ [10] = l ++ (dec k ++ 32 :: ([115, 101, 116] ++ (rtext fset 256 ++ [10])))
            simp
          clear hd7 hb7
          go_wp2_with fail
          refine (WriteByte_any bb bb (l1 ++ rtext fset 256) 10 _ HD7.out (by omega) HD7.out.base).mono ?_
          rintro e w9 ⟨rfl, hd9, hb9, -⟩
          rw [HLN.out] at hd9
          have HD9 := hid hd9
          have HW9 := hid (HW7.out.trans (hb9.mono (Nat.le_refl _)))
          clear hd9 hb9
          go_wp2_with fail
          all_goals
            refine ⟨⟨k + 1, l ++ lineOf k ⟨1, fset, fx, fy⟩, hlt, HLE.out, rfl, ?_, HD9.out, HW9.out⟩, ?_⟩
            · show _ = _
              rw [HPT.out, HL.out, List.append_assoc]
            · show L.length - ((k : Int) + 1).toNat < L.length - (k : Int).toNat
              omega
        · have HC := hid (fun (x : World) (hx : Grow w8.drew x) => (show x.cell? ⟨bx, 0, none⟩ = some (.int .i64 2) ∧ x.cell? ⟨0, 2, none⟩ = some (.string ⟨#[115, 112, 108, 105, 116]⟩) from
            ⟨(HRW.out.below (show Below w8.heap.size w8 x from ⟨hx.os, hx.tape, hx.output, hx.size, hx.block⟩) HRW.out.lt).cell 0, name_cell (HT2.out.below (HBY.out x hx) (by omega)) 2 _ rfl⟩))
          refine wp_region_inv 8 (Grow) (by kernel_rfl) (by kernel_rfl) (Grow.refl) (fun _ _ _ => Grow.trans) ?_
          simp only [fill, dstOf, Act.put, List.take_succ_cons, List.take_zero, List.getElem?_toArray, List.getElem?_cons_zero, List.getElem?_cons_succ, Option.bind_some, List.setIfInBounds_toArray, List.set_cons_zero, List.set_cons_succ]
          refine Plan.det 1 rfl (Grow.refl) ?_
          apply Exists.intro
          refine ⟨fun vs x hR hF K hK => ?_, ?_⟩
          · clear hF
            go_simp
            exact hK _ _ (Grow.refl _) rfl
          refine Plan.det 2 rfl (Grow.refl) ?_
          apply Exists.intro
          refine ⟨fun vs x hR hF K hK => ?_, ?_⟩
          · have f0 := hF 0 _ _ rfl rfl; clear hF
            go_simp
            refine (HFM.out x (HBY.out x hR)).mono ?_
            rintro e x1 ⟨rfl, hbe⟩
            exact ⟨_, rfl, hK _ _ hbe rfl⟩
          refine Plan.det 3 rfl (Grow.refl) ?_
          apply Exists.intro
          refine ⟨fun vs x hR hF K hK => ?_, ?_⟩
          · have f1 := hF 0 _ _ rfl rfl; clear hF
            go_simp
            rw [if_neg (by omega)]
            exact hK _ _ (Grow.refl _) rfl
          refine Plan.det 4 rfl (Grow.refl) ?_
          apply Exists.intro
          refine ⟨fun vs x hR hF K hK => ?_, ?_⟩
          · clear hF
            go_simp
            exact hK _ _ (Grow.refl _) rfl
          refine Plan.det 5 rfl (Grow.refl) ?_
          apply Exists.intro
          refine ⟨fun vs x hR hF K hK => ?_, ?_⟩
          · have f3 := hF 0 _ _ rfl rfl; have hc := HC.out x hR; clear hF
            go_simp
            exact hK _ _ (Grow.refl _) rfl
          refine Plan.det 6 rfl (Grow.refl) ?_
          apply Exists.intro
          refine ⟨fun vs x hR hF K hK => ?_, ?_⟩
          · have f4 := hF 0 _ _ rfl rfl; clear hF
            go_simp
            exact hK _ _ (Grow.refl _) rfl
          refine Plan.det 7 rfl (Grow.refl) ?_
          apply Exists.intro
          refine ⟨fun vs x hR hF K hK => ?_, ?_⟩
          · have f5 := hF 0 _ _ rfl rfl; have hc := HC.out x hR; clear hF
            go_simp
            exact hK _ _ (Grow.refl _) rfl
          refine Plan.det 8 rfl (Grow.refl) ?_
          apply Exists.intro
          refine ⟨fun vs x hR hF K hK => ?_, ?_⟩
          · have f2 := hF 4 _ _ rfl rfl; have f6 := hF 0 _ _ rfl rfl; clear hF
            go_simp
            rw [if_neg (by omega)]
            exact hK _ _ (Grow.refl _) rfl
          refine Plan.nil (fun vs x hR hF => ?_)
          have f0 := hF 7 _ _ rfl; have f1 := hF 6 _ _ rfl; have f2 := hF 5 _ _ rfl; have f3 := hF 4 _ _ rfl; have f4 := hF 3 _ _ rfl; have f5 := hF 2 _ _ rfl; have f6 := hF 1 _ _ rfl; have f7 := hF 0 _ _ rfl
          clear hF
          simp only [f0, f1, f2, f3, f4, f5, f6, f7]
          clear f0 f1 f2 f3 f4 f5 f6 f7
          simp only [List.drop_succ_cons, List.drop_zero]
          have hbx5 : Below w8.heap.size w8 x := ⟨hR.os, hR.tape, hR.output, hR.size, hR.block⟩
          have HDx := hid (HD8.out.more hbx5)
          have HWx := hid (HBY.out x hR)
          have HRx := hid (HRW.out.below hbx5 HRW.out.lt)
          have HS1 : Hid (bs (dec k) ++ (⟨#[32]⟩ : ByteArray) ++ (⟨#[115, 112, 108, 105, 116]⟩ : ByteArray) = bs (dec k ++ [32, 115, 112, 108, 105, 116])) := by
            show bs (dec k) ++ bs [32] ++ bs [115, 112, 108, 105, 116] = _
            rw [bs_app, bs_app]
            congr 1
            simp
          have hs1l : (dec k ++ [32, 115, 112, 108, 105, 116] : List UInt8).length ≤ 12 := by simp only [List.length_append, List.length_cons, List.length_nil]; omega
          have hs1 : (bs (dec k ++ [32, 115, 112, 108, 105, 116])).size ≤ 12 := by rw [bs_size]; exact hs1l
          clear HC hR hbx5 HBY HFM
          rw [HS1.out]
          go_wp2_with fail
          refine (WriteString_any bb bb l (bs (dec k ++ [32, 115, 112, 108, 105, 116])) _ HDx.out (by omega) HDx.out.base).mono ?_
          rintro e w5 ⟨rfl, hd5, hb5, ho5⟩
          rw [bs_list] at hd5
          have hl1 : (l ++ (dec k ++ [32, 115, 112, 108, 105, 116])).length ≤ 20000000 := by rw [List.length_append]; omega
          obtain ⟨l1, hg1⟩ : ∃ l1, l1 = l ++ (dec k ++ [32, 115, 112, 108, 105, 116]) := ⟨_, rfl⟩
          rw [← hg1] at hd5 hl1
          have HL1 := hid hg1.symm
          clear hg1
          have HD5 := hid hd5
          have HW5 := hid (HWx.out.trans (hb5.mono (Nat.le_refl _)))
          have HRX := hid (HRx.out.oth ho5 (HRx.out.ne_bd HDx.out (by decide)) (by decide))
          have HBS5 : Hid (bb ≤ w5.heap.size) := HD5.out.base
          clear hd5 hb5 ho5 HDx HRx HWx
          have q6 := row7 HRX.out
          obtain ⟨hx, hy⟩ : (0 ≤ fx ∧ fx < L.length) ∧ (0 ≤ fy ∧ fy < L.length) := by
            have h := HRT.out
            unfold Inst.right at h
            simp only at h
            omega
          have hx2 : fx = (fx.toNat : Int) := by omega
          have hy2 : fy = (fy.toNat : Int) := by omega
          have hxl : fx.toNat < 100000 := by omega
          have hyl : fy.toNat < 100000 := by omega
          have HLN0 : Hid (restOf ⟨2, fset, fx, fy⟩ = 32 :: (dec fx.toNat ++ 32 :: dec fy.toNat)) := rfl
          have hd1 : (bs (dec fx.toNat)).size ≤ 5 := by rw [bs_size]; exact dec_len hxl
          have hd2 : (bs (dec fy.toNat)).size ≤ 5 := by rw [bs_size]; exact dec_len hyl
          have hd1l : (dec fx.toNat).length ≤ 5 := dec_len hxl
          have hd2l : (dec fy.toNat).length ≤ 5 := dec_len hyl
          have HFX := hid (fun (y : World) (hy : Below bb w2 y) => Format_any fx.toNat y hxl (HT2.out.below hy (by omega)))
          have HFY := hid (fun (y : World) (hy : Below bb w2 y) => Format_any fy.toNat y hyl (HT2.out.below hy (by omega)))
          have HLN : Hid (l1 ++ 32 :: (dec fx.toNat ++ 32 :: dec fy.toNat) ++ [10] = l ++ lineOf k ⟨2, fset, fx, fy⟩) := by
            show _ = _
            rw [← HL1.out]
            show l ++ (dec k ++ [32, 115, 112, 108, 105, 116]) ++ 32 :: (dec fx.toNat ++ 32 :: dec fy.toNat) ++ [10] = l ++ (dec k ++ 32 :: ([115, 112, 108, 105, 116] ++ ((32 :: (dec fx.toNat ++ 32 :: dec fy.toNat)) ++ [10])))
            simp
          have HTX : Hid ((⟨#[32]⟩ : ByteArray) ++ bs (dec fx.toNat) ++ (⟨#[32]⟩ : ByteArray) ++ bs (dec fy.toNat) = bs (32 :: (dec fx.toNat ++ 32 :: dec fy.toNat))) := by
            show bs [32] ++ bs (dec fx.toNat) ++ bs [32] ++ bs (dec fy.toNat) = _
            rw [bs_app, bs_app, bs_app]
            congr 1
            simp
          generalize fx.toNat = xn at *
          generalize fy.toNat = yn at *
          generalize lineOf k ⟨2, fset, fx, fy⟩ = ln at *
          generalize hfx : fx = fxv at *
          generalize hfy : fy = fyv at *
          subst hx2 hy2
          go_upto_region 14 with fail
          have HC := hid (fun (x : World) (hx : Grow w5.drew x) => (show (x.cell? ⟨bx, 5, none⟩ = some (.int .i64 xn) ∧ x.cell? ⟨bx, 6, none⟩ = some (.int .i64 yn)) from by
            have h := HRX.out.below (show Below w5.heap.size w5 x from ⟨hx.os, hx.tape, hx.output, hx.size, hx.block⟩) HRX.out.lt
            exact ⟨h.cell 5, h.cell 6⟩))
          have HBY := hid (fun (x : World) (hx : Grow w5.drew x) => HW5.out.trans ((show Below w5.heap.size w5 x from ⟨hx.os, hx.tape, hx.output, hx.size, hx.block⟩).mono HBS5.out))
          clear q6
          refine wp_region_inv 9 (Grow) (by kernel_rfl) (by kernel_rfl) (Grow.refl) (fun _ _ _ => Grow.trans) ?_
          simp only [fill, dstOf, Act.put, List.take_succ_cons, List.take_zero, List.getElem?_toArray, List.getElem?_cons_zero, List.getElem?_cons_succ, Option.bind_some, List.setIfInBounds_toArray, List.set_cons_zero, List.set_cons_succ]
          refine Plan.det 1 rfl (Grow.refl) ?_
          apply Exists.intro
          refine ⟨fun vs x hR hF K hK => ?_, ?_⟩
          · clear hF
            go_simp
            exact hK _ _ (Grow.refl _) rfl
          refine Plan.det 2 rfl (Grow.refl) ?_
          apply Exists.intro
          refine ⟨fun vs x hR hF K hK => ?_, ?_⟩
          · have f0 := hF 0 _ _ rfl rfl; have hc := HC.out x hR; clear hF
            go_simp
            exact hK _ _ (Grow.refl _) rfl
          refine Plan.det 3 rfl (Grow.refl) ?_
          apply Exists.intro
          refine ⟨fun vs x hR hF K hK => ?_, ?_⟩
          · have f1 := hF 0 _ _ rfl rfl; clear hF
            go_simp
            refine (HFX.out x (HBY.out x hR)).mono ?_
            rintro e x1 ⟨rfl, hbe⟩
            exact ⟨_, rfl, hK _ _ hbe rfl⟩
          refine Plan.det 4 rfl (Grow.refl) ?_
          apply Exists.intro
          refine ⟨fun vs x hR hF K hK => ?_, ?_⟩
          · have f2 := hF 0 _ _ rfl rfl; clear hF
            go_simp
            rw [if_neg (by omega)]
            exact hK _ _ (Grow.refl _) rfl
          refine Plan.det 5 rfl (Grow.refl) ?_
          apply Exists.intro
          refine ⟨fun vs x hR hF K hK => ?_, ?_⟩
          · have f3 := hF 0 _ _ rfl rfl; clear hF
            go_simp
            rw [if_neg (by omega)]
            exact hK _ _ (Grow.refl _) rfl
          refine Plan.det 6 rfl (Grow.refl) ?_
          apply Exists.intro
          refine ⟨fun vs x hR hF K hK => ?_, ?_⟩
          · clear hF
            go_simp
            exact hK _ _ (Grow.refl _) rfl
          refine Plan.det 7 rfl (Grow.refl) ?_
          apply Exists.intro
          refine ⟨fun vs x hR hF K hK => ?_, ?_⟩
          · have f5 := hF 0 _ _ rfl rfl; have hc := HC.out x hR; clear hF
            go_simp
            exact hK _ _ (Grow.refl _) rfl
          refine Plan.det 8 rfl (Grow.refl) ?_
          apply Exists.intro
          refine ⟨fun vs x hR hF K hK => ?_, ?_⟩
          · have f2 := hF 4 _ _ rfl rfl; have f6 := hF 0 _ _ rfl rfl; clear hF
            go_simp
            refine (HFY.out x (HBY.out x hR)).mono ?_
            rintro e x1 ⟨rfl, hbe⟩
            exact ⟨_, rfl, hK _ _ hbe rfl⟩
          refine Plan.det 9 rfl (Grow.refl) ?_
          apply Exists.intro
          refine ⟨fun vs x hR hF K hK => ?_, ?_⟩
          · have f4 := hF 3 _ _ rfl rfl; have f7 := hF 0 _ _ rfl rfl; clear hF
            go_simp
            rw [if_neg (by omega)]
            exact hK _ _ (Grow.refl _) rfl
          refine Plan.nil (fun vs x hR hF => ?_)
          have f0 := hF 8 _ _ rfl; have f1 := hF 7 _ _ rfl; have f2 := hF 6 _ _ rfl; have f3 := hF 5 _ _ rfl; have f4 := hF 4 _ _ rfl; have f5 := hF 3 _ _ rfl; have f6 := hF 2 _ _ rfl; have f7 := hF 1 _ _ rfl; have f8 := hF 0 _ _ rfl
          clear hF
          simp only [f0, f1, f2, f3, f4, f5, f6, f7, f8]
          clear f0 f1 f2 f3 f4 f5 f6 f7 f8
          simp only [List.drop_succ_cons, List.drop_zero]
          have hbx6 : Below w5.heap.size w5 x := ⟨hR.os, hR.tape, hR.output, hR.size, hR.block⟩
          have HD6 := hid (HD5.out.more hbx6)
          have HW6 := hid (HBY.out x hR)
          clear HC hR hbx6 HBY HFX HFY
          rw [HTX.out]
          have hrl : (bs (32 :: (dec xn ++ 32 :: dec yn))).size ≤ 12 := by rw [bs_size]; simp only [List.length_cons, List.length_append]; omega
          go_wp2_with fail
          refine (WriteString_any bb bb l1 (bs (32 :: (dec xn ++ 32 :: dec yn))) _ HD6.out (by omega) HD6.out.base).mono ?_
          rintro e w7 ⟨rfl, hd7, hb7, -⟩
          rw [bs_list] at hd7
          have HD7 := hid hd7
          have HW7 := hid (HW6.out.trans (hb7.mono (Nat.le_refl _)))
          have hl7 : (l1 ++ 32 :: (dec xn ++ 32 :: dec yn)).length ≤ 30000000 := by simp only [List.length_cons, List.length_append]; omega
          clear hd7 hb7
          go_wp2_with fail
          refine (WriteByte_any bb bb (l1 ++ 32 :: (dec xn ++ 32 :: dec yn)) 10 _ HD7.out (by omega) HD7.out.base).mono ?_
          rintro e w9 ⟨rfl, hd9, hb9, -⟩
          rw [HLN.out] at hd9
          have HD9 := hid hd9
          have HW9 := hid (HW7.out.trans (hb9.mono (Nat.le_refl _)))
          clear hd9 hb9
          go_wp2_with fail
          all_goals
            refine ⟨⟨k + 1, l ++ ln, hlt, HLE.out, rfl, ?_, HD9.out, HW9.out⟩, ?_⟩
            · show _ = _
              rw [HPT.out, HL.out, List.append_assoc]
            · show L.length - ((k : Int) + 1).toNat < L.length - (k : Int).toNat
              omega
        · have HC := hid (fun (x : World) (hx : Grow w8.drew x) => (show x.cell? ⟨bx, 0, none⟩ = some (.int .i64 3) ∧ x.cell? ⟨0, 3, none⟩ = some (.string ⟨#[106, 117, 109, 112]⟩) from
            ⟨(HRW.out.below (show Below w8.heap.size w8 x from ⟨hx.os, hx.tape, hx.output, hx.size, hx.block⟩) HRW.out.lt).cell 0, name_cell (HT2.out.below (HBY.out x hx) (by omega)) 3 _ rfl⟩))
          refine wp_region_inv 8 (Grow) (by kernel_rfl) (by kernel_rfl) (Grow.refl) (fun _ _ _ => Grow.trans) ?_
          simp only [fill, dstOf, Act.put, List.take_succ_cons, List.take_zero, List.getElem?_toArray, List.getElem?_cons_zero, List.getElem?_cons_succ, Option.bind_some, List.setIfInBounds_toArray, List.set_cons_zero, List.set_cons_succ]
          refine Plan.det 1 rfl (Grow.refl) ?_
          apply Exists.intro
          refine ⟨fun vs x hR hF K hK => ?_, ?_⟩
          · clear hF
            go_simp
            exact hK _ _ (Grow.refl _) rfl
          refine Plan.det 2 rfl (Grow.refl) ?_
          apply Exists.intro
          refine ⟨fun vs x hR hF K hK => ?_, ?_⟩
          · have f0 := hF 0 _ _ rfl rfl; clear hF
            go_simp
            refine (HFM.out x (HBY.out x hR)).mono ?_
            rintro e x1 ⟨rfl, hbe⟩
            exact ⟨_, rfl, hK _ _ hbe rfl⟩
          refine Plan.det 3 rfl (Grow.refl) ?_
          apply Exists.intro
          refine ⟨fun vs x hR hF K hK => ?_, ?_⟩
          · have f1 := hF 0 _ _ rfl rfl; clear hF
            go_simp
            rw [if_neg (by omega)]
            exact hK _ _ (Grow.refl _) rfl
          refine Plan.det 4 rfl (Grow.refl) ?_
          apply Exists.intro
          refine ⟨fun vs x hR hF K hK => ?_, ?_⟩
          · clear hF
            go_simp
            exact hK _ _ (Grow.refl _) rfl
          refine Plan.det 5 rfl (Grow.refl) ?_
          apply Exists.intro
          refine ⟨fun vs x hR hF K hK => ?_, ?_⟩
          · have f3 := hF 0 _ _ rfl rfl; have hc := HC.out x hR; clear hF
            go_simp
            exact hK _ _ (Grow.refl _) rfl
          refine Plan.det 6 rfl (Grow.refl) ?_
          apply Exists.intro
          refine ⟨fun vs x hR hF K hK => ?_, ?_⟩
          · have f4 := hF 0 _ _ rfl rfl; clear hF
            go_simp
            exact hK _ _ (Grow.refl _) rfl
          refine Plan.det 7 rfl (Grow.refl) ?_
          apply Exists.intro
          refine ⟨fun vs x hR hF K hK => ?_, ?_⟩
          · have f5 := hF 0 _ _ rfl rfl; have hc := HC.out x hR; clear hF
            go_simp
            exact hK _ _ (Grow.refl _) rfl
          refine Plan.det 8 rfl (Grow.refl) ?_
          apply Exists.intro
          refine ⟨fun vs x hR hF K hK => ?_, ?_⟩
          · have f2 := hF 4 _ _ rfl rfl; have f6 := hF 0 _ _ rfl rfl; clear hF
            go_simp
            rw [if_neg (by omega)]
            exact hK _ _ (Grow.refl _) rfl
          refine Plan.nil (fun vs x hR hF => ?_)
          have f0 := hF 7 _ _ rfl; have f1 := hF 6 _ _ rfl; have f2 := hF 5 _ _ rfl; have f3 := hF 4 _ _ rfl; have f4 := hF 3 _ _ rfl; have f5 := hF 2 _ _ rfl; have f6 := hF 1 _ _ rfl; have f7 := hF 0 _ _ rfl
          clear hF
          simp only [f0, f1, f2, f3, f4, f5, f6, f7]
          clear f0 f1 f2 f3 f4 f5 f6 f7
          simp only [List.drop_succ_cons, List.drop_zero]
          have hbx5 : Below w8.heap.size w8 x := ⟨hR.os, hR.tape, hR.output, hR.size, hR.block⟩
          have HDx := hid (HD8.out.more hbx5)
          have HWx := hid (HBY.out x hR)
          have HRx := hid (HRW.out.below hbx5 HRW.out.lt)
          have HS1 : Hid (bs (dec k) ++ (⟨#[32]⟩ : ByteArray) ++ (⟨#[106, 117, 109, 112]⟩ : ByteArray) = bs (dec k ++ [32, 106, 117, 109, 112])) := by
            show bs (dec k) ++ bs [32] ++ bs [106, 117, 109, 112] = _
            rw [bs_app, bs_app]
            congr 1
            simp
          have hs1l : (dec k ++ [32, 106, 117, 109, 112] : List UInt8).length ≤ 12 := by simp only [List.length_append, List.length_cons, List.length_nil]; omega
          have hs1 : (bs (dec k ++ [32, 106, 117, 109, 112])).size ≤ 12 := by rw [bs_size]; exact hs1l
          clear HC hR hbx5 HBY HFM
          rw [HS1.out]
          go_wp2_with fail
          refine (WriteString_any bb bb l (bs (dec k ++ [32, 106, 117, 109, 112])) _ HDx.out (by omega) HDx.out.base).mono ?_
          rintro e w5 ⟨rfl, hd5, hb5, ho5⟩
          rw [bs_list] at hd5
          have hl1 : (l ++ (dec k ++ [32, 106, 117, 109, 112])).length ≤ 20000000 := by rw [List.length_append]; omega
          obtain ⟨l1, hg1⟩ : ∃ l1, l1 = l ++ (dec k ++ [32, 106, 117, 109, 112]) := ⟨_, rfl⟩
          rw [← hg1] at hd5 hl1
          have HL1 := hid hg1.symm
          clear hg1
          have HD5 := hid hd5
          have HW5 := hid (HWx.out.trans (hb5.mono (Nat.le_refl _)))
          have HRX := hid (HRx.out.oth ho5 (HRx.out.ne_bd HDx.out (by decide)) (by decide))
          have HBS5 : Hid (bb ≤ w5.heap.size) := HD5.out.base
          clear hd5 hb5 ho5 HDx HRx HWx
          have q6 := row7 HRX.out
          obtain hx : 0 ≤ fx ∧ fx < L.length := by
            have h := HRT.out
            unfold Inst.right at h
            simp only at h
            omega
          have hx2 : fx = (fx.toNat : Int) := by omega
          have hxl : fx.toNat < 100000 := by omega
          have hd1 : (bs (dec fx.toNat)).size ≤ 5 := by rw [bs_size]; exact dec_len hxl
          have hd1l : (dec fx.toNat).length ≤ 5 := dec_len hxl
          have HFX := hid (Format_any fx.toNat w5 hxl (HT2.out.below HW5.out (by omega)))
          have HLN : Hid (l1 ++ 32 :: dec fx.toNat ++ [10] = l ++ lineOf k ⟨3, fset, fx, fy⟩) := by
            show _ = _
            rw [← HL1.out]
            show l ++ (dec k ++ [32, 106, 117, 109, 112]) ++ 32 :: dec fx.toNat ++ [10] = l ++ (dec k ++ 32 :: ([106, 117, 109, 112] ++ ((32 :: dec fx.toNat) ++ [10])))
            simp
          have HTX : Hid ((⟨#[32]⟩ : ByteArray) ++ bs (dec fx.toNat) = bs (32 :: dec fx.toNat)) := by
            show bs [32] ++ bs (dec fx.toNat) = _
            rw [bs_app]
            rfl
          generalize lineOf k ⟨3, fset, fx, fy⟩ = ln at *
          generalize fx.toNat = xn at *
          subst hx2
          go_wp2_with fail
          refine HFX.out.mono ?_
          rintro e w6 ⟨rfl, hb6⟩
          have HD6 := hid (HD5.out.more hb6)
          have HW6 := hid (HW5.out.trans (hb6.mono HBS5.out))
          clear hb6 HFX q6
          have hrl : (bs (32 :: dec xn)).size ≤ 12 := by rw [bs_size]; simp only [List.length_cons]; omega
          go_wp2_with fail
          rw [HTX.out]
          refine (WriteString_any bb bb l1 (bs (32 :: dec xn)) _ HD6.out (by omega) HD6.out.base).mono ?_
          rintro e w7 ⟨rfl, hd7, hb7, -⟩
          rw [bs_list] at hd7
          have HD7 := hid hd7
          have HW7 := hid (HW6.out.trans (hb7.mono (Nat.le_refl _)))
          have hl7 : (l1 ++ 32 :: dec xn).length ≤ 30000000 := by simp only [List.length_cons, List.length_append]; omega
          clear hd7 hb7
          go_wp2_with fail
          refine (WriteByte_any bb bb (l1 ++ 32 :: dec xn) 10 _ HD7.out (by omega) HD7.out.base).mono ?_
          rintro e w9 ⟨rfl, hd9, hb9, -⟩
          rw [HLN.out] at hd9
          have HD9 := hid hd9
          have HW9 := hid (HW7.out.trans (hb9.mono (Nat.le_refl _)))
          clear hd9 hb9
          go_wp2_with fail
          all_goals
            refine ⟨⟨k + 1, l ++ ln, hlt, HLE.out, rfl, ?_, HD9.out, HW9.out⟩, ?_⟩
            · show _ = _
              rw [HPT.out, HL.out, List.append_assoc]
            · show L.length - ((k : Int) + 1).toNat < L.length - (k : Int).toNat
              omega
        · have HC := hid (fun (x : World) (hx : Grow w8.drew x) => (show x.cell? ⟨bx, 0, none⟩ = some (.int .i64 4) ∧ x.cell? ⟨0, 4, none⟩ = some (.string ⟨#[98, 101, 103, 105, 110]⟩) from
            ⟨(HRW.out.below (show Below w8.heap.size w8 x from ⟨hx.os, hx.tape, hx.output, hx.size, hx.block⟩) HRW.out.lt).cell 0, name_cell (HT2.out.below (HBY.out x hx) (by omega)) 4 _ rfl⟩))
          refine wp_region_inv 8 (Grow) (by kernel_rfl) (by kernel_rfl) (Grow.refl) (fun _ _ _ => Grow.trans) ?_
          simp only [fill, dstOf, Act.put, List.take_succ_cons, List.take_zero, List.getElem?_toArray, List.getElem?_cons_zero, List.getElem?_cons_succ, Option.bind_some, List.setIfInBounds_toArray, List.set_cons_zero, List.set_cons_succ]
          refine Plan.det 1 rfl (Grow.refl) ?_
          apply Exists.intro
          refine ⟨fun vs x hR hF K hK => ?_, ?_⟩
          · clear hF
            go_simp
            exact hK _ _ (Grow.refl _) rfl
          refine Plan.det 2 rfl (Grow.refl) ?_
          apply Exists.intro
          refine ⟨fun vs x hR hF K hK => ?_, ?_⟩
          · have f0 := hF 0 _ _ rfl rfl; clear hF
            go_simp
            refine (HFM.out x (HBY.out x hR)).mono ?_
            rintro e x1 ⟨rfl, hbe⟩
            exact ⟨_, rfl, hK _ _ hbe rfl⟩
          refine Plan.det 3 rfl (Grow.refl) ?_
          apply Exists.intro
          refine ⟨fun vs x hR hF K hK => ?_, ?_⟩
          · have f1 := hF 0 _ _ rfl rfl; clear hF
            go_simp
            rw [if_neg (by omega)]
            exact hK _ _ (Grow.refl _) rfl
          refine Plan.det 4 rfl (Grow.refl) ?_
          apply Exists.intro
          refine ⟨fun vs x hR hF K hK => ?_, ?_⟩
          · clear hF
            go_simp
            exact hK _ _ (Grow.refl _) rfl
          refine Plan.det 5 rfl (Grow.refl) ?_
          apply Exists.intro
          refine ⟨fun vs x hR hF K hK => ?_, ?_⟩
          · have f3 := hF 0 _ _ rfl rfl; have hc := HC.out x hR; clear hF
            go_simp
            exact hK _ _ (Grow.refl _) rfl
          refine Plan.det 6 rfl (Grow.refl) ?_
          apply Exists.intro
          refine ⟨fun vs x hR hF K hK => ?_, ?_⟩
          · have f4 := hF 0 _ _ rfl rfl; clear hF
            go_simp
            exact hK _ _ (Grow.refl _) rfl
          refine Plan.det 7 rfl (Grow.refl) ?_
          apply Exists.intro
          refine ⟨fun vs x hR hF K hK => ?_, ?_⟩
          · have f5 := hF 0 _ _ rfl rfl; have hc := HC.out x hR; clear hF
            go_simp
            exact hK _ _ (Grow.refl _) rfl
          refine Plan.det 8 rfl (Grow.refl) ?_
          apply Exists.intro
          refine ⟨fun vs x hR hF K hK => ?_, ?_⟩
          · have f2 := hF 4 _ _ rfl rfl; have f6 := hF 0 _ _ rfl rfl; clear hF
            go_simp
            rw [if_neg (by omega)]
            exact hK _ _ (Grow.refl _) rfl
          refine Plan.nil (fun vs x hR hF => ?_)
          have f0 := hF 7 _ _ rfl; have f1 := hF 6 _ _ rfl; have f2 := hF 5 _ _ rfl; have f3 := hF 4 _ _ rfl; have f4 := hF 3 _ _ rfl; have f5 := hF 2 _ _ rfl; have f6 := hF 1 _ _ rfl; have f7 := hF 0 _ _ rfl
          clear hF
          simp only [f0, f1, f2, f3, f4, f5, f6, f7]
          clear f0 f1 f2 f3 f4 f5 f6 f7
          simp only [List.drop_succ_cons, List.drop_zero]
          have hbx5 : Below w8.heap.size w8 x := ⟨hR.os, hR.tape, hR.output, hR.size, hR.block⟩
          have HDx := hid (HD8.out.more hbx5)
          have HWx := hid (HBY.out x hR)
          have HRx := hid (HRW.out.below hbx5 HRW.out.lt)
          have HS1 : Hid (bs (dec k) ++ (⟨#[32]⟩ : ByteArray) ++ (⟨#[98, 101, 103, 105, 110]⟩ : ByteArray) = bs (dec k ++ [32, 98, 101, 103, 105, 110])) := by
            show bs (dec k) ++ bs [32] ++ bs [98, 101, 103, 105, 110] = _
            rw [bs_app, bs_app]
            congr 1
            simp
          have hs1l : (dec k ++ [32, 98, 101, 103, 105, 110] : List UInt8).length ≤ 12 := by simp only [List.length_append, List.length_cons, List.length_nil]; omega
          have hs1 : (bs (dec k ++ [32, 98, 101, 103, 105, 110])).size ≤ 12 := by rw [bs_size]; exact hs1l
          clear HC hR hbx5 HBY HFM
          rw [HS1.out]
          go_wp2_with fail
          refine (WriteString_any bb bb l (bs (dec k ++ [32, 98, 101, 103, 105, 110])) _ HDx.out (by omega) HDx.out.base).mono ?_
          rintro e w5 ⟨rfl, hd5, hb5, ho5⟩
          rw [bs_list] at hd5
          have hl1 : (l ++ (dec k ++ [32, 98, 101, 103, 105, 110])).length ≤ 20000000 := by rw [List.length_append]; omega
          obtain ⟨l1, hg1⟩ : ∃ l1, l1 = l ++ (dec k ++ [32, 98, 101, 103, 105, 110]) := ⟨_, rfl⟩
          rw [← hg1] at hd5 hl1
          have HL1 := hid hg1.symm
          clear hg1
          have HD5 := hid hd5
          have HW5 := hid (HWx.out.trans (hb5.mono (Nat.le_refl _)))
          have HRX := hid (HRx.out.oth ho5 (HRx.out.ne_bd HDx.out (by decide)) (by decide))
          have HBS5 : Hid (bb ≤ w5.heap.size) := HD5.out.base
          clear hd5 hb5 ho5 HDx HRx HWx
          have q6 := row7 HRX.out
          have HLN : Hid (l1 ++ [10] = l ++ lineOf k ⟨4, fset, fx, fy⟩) := by
            show _ = _
            rw [← HL1.out]
            show l ++ (dec k ++ [32, 98, 101, 103, 105, 110]) ++ [10] = l ++ (dec k ++ 32 :: ([98, 101, 103, 105, 110] ++ ([] ++ [10])))
            simp
          have HD7 := HD5
          have HW7 := HW5
          have hl7 : l1.length ≤ 30000000 := by omega
          go_wp2_with fail
          refine (WriteByte_any bb bb (l1) 10 _ HD7.out (by omega) HD7.out.base).mono ?_
          rintro e w9 ⟨rfl, hd9, hb9, -⟩
          rw [HLN.out] at hd9
          have HD9 := hid hd9
          have HW9 := hid (HW7.out.trans (hb9.mono (Nat.le_refl _)))
          clear hd9 hb9
          go_wp2_with fail
          all_goals
            refine ⟨⟨k + 1, l ++ lineOf k ⟨4, fset, fx, fy⟩, hlt, HLE.out, rfl, ?_, HD9.out, HW9.out⟩, ?_⟩
            · show _ = _
              rw [HPT.out, HL.out, List.append_assoc]
            · show L.length - ((k : Int) + 1).toNat < L.length - (k : Int).toNat
              omega
        · have HC := hid (fun (x : World) (hx : Grow w8.drew x) => (show x.cell? ⟨bx, 0, none⟩ = some (.int .i64 5) ∧ x.cell? ⟨0, 5, none⟩ = some (.string ⟨#[101, 110, 100]⟩) from
            ⟨(HRW.out.below (show Below w8.heap.size w8 x from ⟨hx.os, hx.tape, hx.output, hx.size, hx.block⟩) HRW.out.lt).cell 0, name_cell (HT2.out.below (HBY.out x hx) (by omega)) 5 _ rfl⟩))
          refine wp_region_inv 8 (Grow) (by kernel_rfl) (by kernel_rfl) (Grow.refl) (fun _ _ _ => Grow.trans) ?_
          simp only [fill, dstOf, Act.put, List.take_succ_cons, List.take_zero, List.getElem?_toArray, List.getElem?_cons_zero, List.getElem?_cons_succ, Option.bind_some, List.setIfInBounds_toArray, List.set_cons_zero, List.set_cons_succ]
          refine Plan.det 1 rfl (Grow.refl) ?_
          apply Exists.intro
          refine ⟨fun vs x hR hF K hK => ?_, ?_⟩
          · clear hF
            go_simp
            exact hK _ _ (Grow.refl _) rfl
          refine Plan.det 2 rfl (Grow.refl) ?_
          apply Exists.intro
          refine ⟨fun vs x hR hF K hK => ?_, ?_⟩
          · have f0 := hF 0 _ _ rfl rfl; clear hF
            go_simp
            refine (HFM.out x (HBY.out x hR)).mono ?_
            rintro e x1 ⟨rfl, hbe⟩
            exact ⟨_, rfl, hK _ _ hbe rfl⟩
          refine Plan.det 3 rfl (Grow.refl) ?_
          apply Exists.intro
          refine ⟨fun vs x hR hF K hK => ?_, ?_⟩
          · have f1 := hF 0 _ _ rfl rfl; clear hF
            go_simp
            rw [if_neg (by omega)]
            exact hK _ _ (Grow.refl _) rfl
          refine Plan.det 4 rfl (Grow.refl) ?_
          apply Exists.intro
          refine ⟨fun vs x hR hF K hK => ?_, ?_⟩
          · clear hF
            go_simp
            exact hK _ _ (Grow.refl _) rfl
          refine Plan.det 5 rfl (Grow.refl) ?_
          apply Exists.intro
          refine ⟨fun vs x hR hF K hK => ?_, ?_⟩
          · have f3 := hF 0 _ _ rfl rfl; have hc := HC.out x hR; clear hF
            go_simp
            exact hK _ _ (Grow.refl _) rfl
          refine Plan.det 6 rfl (Grow.refl) ?_
          apply Exists.intro
          refine ⟨fun vs x hR hF K hK => ?_, ?_⟩
          · have f4 := hF 0 _ _ rfl rfl; clear hF
            go_simp
            exact hK _ _ (Grow.refl _) rfl
          refine Plan.det 7 rfl (Grow.refl) ?_
          apply Exists.intro
          refine ⟨fun vs x hR hF K hK => ?_, ?_⟩
          · have f5 := hF 0 _ _ rfl rfl; have hc := HC.out x hR; clear hF
            go_simp
            exact hK _ _ (Grow.refl _) rfl
          refine Plan.det 8 rfl (Grow.refl) ?_
          apply Exists.intro
          refine ⟨fun vs x hR hF K hK => ?_, ?_⟩
          · have f2 := hF 4 _ _ rfl rfl; have f6 := hF 0 _ _ rfl rfl; clear hF
            go_simp
            rw [if_neg (by omega)]
            exact hK _ _ (Grow.refl _) rfl
          refine Plan.nil (fun vs x hR hF => ?_)
          have f0 := hF 7 _ _ rfl; have f1 := hF 6 _ _ rfl; have f2 := hF 5 _ _ rfl; have f3 := hF 4 _ _ rfl; have f4 := hF 3 _ _ rfl; have f5 := hF 2 _ _ rfl; have f6 := hF 1 _ _ rfl; have f7 := hF 0 _ _ rfl
          clear hF
          simp only [f0, f1, f2, f3, f4, f5, f6, f7]
          clear f0 f1 f2 f3 f4 f5 f6 f7
          simp only [List.drop_succ_cons, List.drop_zero]
          have hbx5 : Below w8.heap.size w8 x := ⟨hR.os, hR.tape, hR.output, hR.size, hR.block⟩
          have HDx := hid (HD8.out.more hbx5)
          have HWx := hid (HBY.out x hR)
          have HRx := hid (HRW.out.below hbx5 HRW.out.lt)
          have HS1 : Hid (bs (dec k) ++ (⟨#[32]⟩ : ByteArray) ++ (⟨#[101, 110, 100]⟩ : ByteArray) = bs (dec k ++ [32, 101, 110, 100])) := by
            show bs (dec k) ++ bs [32] ++ bs [101, 110, 100] = _
            rw [bs_app, bs_app]
            congr 1
            simp
          have hs1l : (dec k ++ [32, 101, 110, 100] : List UInt8).length ≤ 12 := by simp only [List.length_append, List.length_cons, List.length_nil]; omega
          have hs1 : (bs (dec k ++ [32, 101, 110, 100])).size ≤ 12 := by rw [bs_size]; exact hs1l
          clear HC hR hbx5 HBY HFM
          rw [HS1.out]
          go_wp2_with fail
          refine (WriteString_any bb bb l (bs (dec k ++ [32, 101, 110, 100])) _ HDx.out (by omega) HDx.out.base).mono ?_
          rintro e w5 ⟨rfl, hd5, hb5, ho5⟩
          rw [bs_list] at hd5
          have hl1 : (l ++ (dec k ++ [32, 101, 110, 100])).length ≤ 20000000 := by rw [List.length_append]; omega
          obtain ⟨l1, hg1⟩ : ∃ l1, l1 = l ++ (dec k ++ [32, 101, 110, 100]) := ⟨_, rfl⟩
          rw [← hg1] at hd5 hl1
          have HL1 := hid hg1.symm
          clear hg1
          have HD5 := hid hd5
          have HW5 := hid (HWx.out.trans (hb5.mono (Nat.le_refl _)))
          have HRX := hid (HRx.out.oth ho5 (HRx.out.ne_bd HDx.out (by decide)) (by decide))
          have HBS5 : Hid (bb ≤ w5.heap.size) := HD5.out.base
          clear hd5 hb5 ho5 HDx HRx HWx
          have q6 := row7 HRX.out
          have HLN : Hid (l1 ++ [10] = l ++ lineOf k ⟨5, fset, fx, fy⟩) := by
            show _ = _
            rw [← HL1.out]
            show l ++ (dec k ++ [32, 101, 110, 100]) ++ [10] = l ++ (dec k ++ 32 :: ([101, 110, 100] ++ ([] ++ [10])))
            simp
          have HD7 := HD5
          have HW7 := HW5
          have hl7 : l1.length ≤ 30000000 := by omega
          go_wp2_with fail
          refine (WriteByte_any bb bb (l1) 10 _ HD7.out (by omega) HD7.out.base).mono ?_
          rintro e w9 ⟨rfl, hd9, hb9, -⟩
          rw [HLN.out] at hd9
          have HD9 := hid hd9
          have HW9 := hid (HW7.out.trans (hb9.mono (Nat.le_refl _)))
          clear hd9 hb9
          go_wp2_with fail
          all_goals
            refine ⟨⟨k + 1, l ++ lineOf k ⟨5, fset, fx, fy⟩, hlt, HLE.out, rfl, ?_, HD9.out, HW9.out⟩, ?_⟩
            · show _ = _
              rw [HPT.out, HL.out, List.append_assoc]
            · show L.length - ((k : Int) + 1).toNat < L.length - (k : Int).toNat
              omega
        · have HC := hid (fun (x : World) (hx : Grow w8.drew x) => (show x.cell? ⟨bx, 0, none⟩ = some (.int .i64 6) ∧ x.cell? ⟨0, 6, none⟩ = some (.string ⟨#[109, 97, 116, 99, 104]⟩) from
            ⟨(HRW.out.below (show Below w8.heap.size w8 x from ⟨hx.os, hx.tape, hx.output, hx.size, hx.block⟩) HRW.out.lt).cell 0, name_cell (HT2.out.below (HBY.out x hx) (by omega)) 6 _ rfl⟩))
          refine wp_region_inv 8 (Grow) (by kernel_rfl) (by kernel_rfl) (Grow.refl) (fun _ _ _ => Grow.trans) ?_
          simp only [fill, dstOf, Act.put, List.take_succ_cons, List.take_zero, List.getElem?_toArray, List.getElem?_cons_zero, List.getElem?_cons_succ, Option.bind_some, List.setIfInBounds_toArray, List.set_cons_zero, List.set_cons_succ]
          refine Plan.det 1 rfl (Grow.refl) ?_
          apply Exists.intro
          refine ⟨fun vs x hR hF K hK => ?_, ?_⟩
          · clear hF
            go_simp
            exact hK _ _ (Grow.refl _) rfl
          refine Plan.det 2 rfl (Grow.refl) ?_
          apply Exists.intro
          refine ⟨fun vs x hR hF K hK => ?_, ?_⟩
          · have f0 := hF 0 _ _ rfl rfl; clear hF
            go_simp
            refine (HFM.out x (HBY.out x hR)).mono ?_
            rintro e x1 ⟨rfl, hbe⟩
            exact ⟨_, rfl, hK _ _ hbe rfl⟩
          refine Plan.det 3 rfl (Grow.refl) ?_
          apply Exists.intro
          refine ⟨fun vs x hR hF K hK => ?_, ?_⟩
          · have f1 := hF 0 _ _ rfl rfl; clear hF
            go_simp
            rw [if_neg (by omega)]
            exact hK _ _ (Grow.refl _) rfl
          refine Plan.det 4 rfl (Grow.refl) ?_
          apply Exists.intro
          refine ⟨fun vs x hR hF K hK => ?_, ?_⟩
          · clear hF
            go_simp
            exact hK _ _ (Grow.refl _) rfl
          refine Plan.det 5 rfl (Grow.refl) ?_
          apply Exists.intro
          refine ⟨fun vs x hR hF K hK => ?_, ?_⟩
          · have f3 := hF 0 _ _ rfl rfl; have hc := HC.out x hR; clear hF
            go_simp
            exact hK _ _ (Grow.refl _) rfl
          refine Plan.det 6 rfl (Grow.refl) ?_
          apply Exists.intro
          refine ⟨fun vs x hR hF K hK => ?_, ?_⟩
          · have f4 := hF 0 _ _ rfl rfl; clear hF
            go_simp
            exact hK _ _ (Grow.refl _) rfl
          refine Plan.det 7 rfl (Grow.refl) ?_
          apply Exists.intro
          refine ⟨fun vs x hR hF K hK => ?_, ?_⟩
          · have f5 := hF 0 _ _ rfl rfl; have hc := HC.out x hR; clear hF
            go_simp
            exact hK _ _ (Grow.refl _) rfl
          refine Plan.det 8 rfl (Grow.refl) ?_
          apply Exists.intro
          refine ⟨fun vs x hR hF K hK => ?_, ?_⟩
          · have f2 := hF 4 _ _ rfl rfl; have f6 := hF 0 _ _ rfl rfl; clear hF
            go_simp
            rw [if_neg (by omega)]
            exact hK _ _ (Grow.refl _) rfl
          refine Plan.nil (fun vs x hR hF => ?_)
          have f0 := hF 7 _ _ rfl; have f1 := hF 6 _ _ rfl; have f2 := hF 5 _ _ rfl; have f3 := hF 4 _ _ rfl; have f4 := hF 3 _ _ rfl; have f5 := hF 2 _ _ rfl; have f6 := hF 1 _ _ rfl; have f7 := hF 0 _ _ rfl
          clear hF
          simp only [f0, f1, f2, f3, f4, f5, f6, f7]
          clear f0 f1 f2 f3 f4 f5 f6 f7
          simp only [List.drop_succ_cons, List.drop_zero]
          have hbx5 : Below w8.heap.size w8 x := ⟨hR.os, hR.tape, hR.output, hR.size, hR.block⟩
          have HDx := hid (HD8.out.more hbx5)
          have HWx := hid (HBY.out x hR)
          have HRx := hid (HRW.out.below hbx5 HRW.out.lt)
          have HS1 : Hid (bs (dec k) ++ (⟨#[32]⟩ : ByteArray) ++ (⟨#[109, 97, 116, 99, 104]⟩ : ByteArray) = bs (dec k ++ [32, 109, 97, 116, 99, 104])) := by
            show bs (dec k) ++ bs [32] ++ bs [109, 97, 116, 99, 104] = _
            rw [bs_app, bs_app]
            congr 1
            simp
          have hs1l : (dec k ++ [32, 109, 97, 116, 99, 104] : List UInt8).length ≤ 12 := by simp only [List.length_append, List.length_cons, List.length_nil]; omega
          have hs1 : (bs (dec k ++ [32, 109, 97, 116, 99, 104])).size ≤ 12 := by rw [bs_size]; exact hs1l
          clear HC hR hbx5 HBY HFM
          rw [HS1.out]
          go_wp2_with fail
          refine (WriteString_any bb bb l (bs (dec k ++ [32, 109, 97, 116, 99, 104])) _ HDx.out (by omega) HDx.out.base).mono ?_
          rintro e w5 ⟨rfl, hd5, hb5, ho5⟩
          rw [bs_list] at hd5
          have hl1 : (l ++ (dec k ++ [32, 109, 97, 116, 99, 104])).length ≤ 20000000 := by rw [List.length_append]; omega
          obtain ⟨l1, hg1⟩ : ∃ l1, l1 = l ++ (dec k ++ [32, 109, 97, 116, 99, 104]) := ⟨_, rfl⟩
          rw [← hg1] at hd5 hl1
          have HL1 := hid hg1.symm
          clear hg1
          have HD5 := hid hd5
          have HW5 := hid (HWx.out.trans (hb5.mono (Nat.le_refl _)))
          have HRX := hid (HRx.out.oth ho5 (HRx.out.ne_bd HDx.out (by decide)) (by decide))
          have HBS5 : Hid (bb ≤ w5.heap.size) := HD5.out.base
          clear hd5 hb5 ho5 HDx HRx HWx
          have q6 := row7 HRX.out
          have HLN : Hid (l1 ++ [10] = l ++ lineOf k ⟨6, fset, fx, fy⟩) := by
            show _ = _
            rw [← HL1.out]
            show l ++ (dec k ++ [32, 109, 97, 116, 99, 104]) ++ [10] = l ++ (dec k ++ 32 :: ([109, 97, 116, 99, 104] ++ ([] ++ [10])))
            simp
          have HD7 := HD5
          have HW7 := HW5
          have hl7 : l1.length ≤ 30000000 := by omega
          go_wp2_with fail
          refine (WriteByte_any bb bb (l1) 10 _ HD7.out (by omega) HD7.out.base).mono ?_
          rintro e w9 ⟨rfl, hd9, hb9, -⟩
          rw [HLN.out] at hd9
          have HD9 := hid hd9
          have HW9 := hid (HW7.out.trans (hb9.mono (Nat.le_refl _)))
          clear hd9 hb9
          go_wp2_with fail
          all_goals
            refine ⟨⟨k + 1, l ++ lineOf k ⟨6, fset, fx, fy⟩, hlt, HLE.out, rfl, ?_, HD9.out, HW9.out⟩, ?_⟩
            · show _ = _
              rw [HPT.out, HL.out, List.append_assoc]
            · show L.length - ((k : Int) + 1).toNat < L.length - (k : Int).toNat
              omega
      · obtain rfl : k = L.length := by omega
        have HSTR := hid (BString_any bb bb l _ HX.out.1 HX.out.1.base)
        go_wp2_with fail
        refine HSTR.out.mono ?_
        rintro e w9 ⟨rfl, hb9⟩
        have HB9 := hid (HB2.out.trans ((HX.out.2.trans (hb9.mono (Nat.le_refl _))).mono (by rw [← HBB.out]; exact HB2.out.size)))
        clear hb9
        go_wp2_with fail
        all_goals (try go_ret)
        all_goals exact HPY.out _ _ HB9.out HRI.out (by rw [HL.out]; rfl)
end Go.Proofs.YtjjhdddlbgdkeaaDoor
