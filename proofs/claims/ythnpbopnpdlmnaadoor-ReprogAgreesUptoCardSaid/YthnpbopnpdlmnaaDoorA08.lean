/- The program's repeat. -/
import Derived.Test.YthnpbopnpdlmnaaDoorA05
import Derived.Test.YthnpbopnpdlmnaaDoorA07
import Derived.Test.YthnpbopnpdlmnaaDoorA04
import Derived.Deep.DeepCutAuto
import Derived.Deep.CutBlock
namespace Go.Proofs.YthnpbopnpdlmnaaDoor
open Go.RowKit
attribute [local go_sem] gives givesUpon

theorem BldAt.row {w : World} {BB : Nat} {go : Option Nat} {L : List Inst} {ov : Bool} (h : BldAt w BB go L ov) : ∃ (a : Option Addr) (c : Nat), Row w BB [.slice a L.length c, .bool ov] 60 := by
  obtain ⟨a, c, k1, k2, k3, k4⟩ := h
  exact ⟨a, c, k1⟩
theorem BldAt.row_kept {w w' : World} {BB B : Nat} {go : Option Nat} {L : List Inst} {ov : Bool} {cs : List Value} {T : TypeId} (h : BldAt w BB go L ov) (hf : FrB BB go w w') (hr : Row w B cs T) (hB : BB ≠ B) (hT : T ≠ 53) : Row w' B cs T := by
  obtain ⟨a, c, k1, k2, k3, k4⟩ := h
  refine (hf.block B hr.lt (fun e => hB e.symm) (fun e => ?_)).trans hr
  rcases k2.2 with ⟨e1, _⟩ | ⟨g2, cap2, cur2, e1, _, e2, _⟩
  · rw [e1] at k4; rw [← k4] at e; simp [Value.ownBlock] at e
  · rw [e1] at k4; rw [← k4] at e
    simp [Value.ownBlock] at e
    subst e
    have hr' : w.heap[g2]? = some (.cells cs.toArray T) := hr
    rw [e2] at hr'
    have e := Option.some.inj hr'
    injection e with e3 e4
    exact hT e4.symm

set_option maxRecDepth 100000 in
set_option maxHeartbeats 8000000 in
theorem brepeat_any {wb : World} (BB : Nat) (hwb : wb.heap.size ≤ BB) (p : Pay) (ho : p.op = 5) (x0 : Re) (ad : Option Addr) (cap : Nat) (w : World) (go : Option Nat) (L : List Inst) (hbw : Below wb.heap.size wb w) (hB : BldAt w BB go L false) (hall : Re.AllIn wb [x0] ad 0)
    (htree : ∀ (w : World) (cs : List Value) (go : Option Nat) (L : List Inst) (ov : Bool), x0.In wb cs → Below wb.heap.size wb w → BldAt w BB go L ov → (ov = true → L.length = 4096) → Calls Tryd.prog 19 #[.pointer (some ⟨BB, 0, none⟩), .agg cs.toArray] w (TPost BB go x0.csize x0.gen L ov w)) :
    Calls Tryd.prog 34 #[.pointer (some ⟨BB, 0, none⟩), .agg #[.int .i64 p.op, .int .u64 p.set.a, .int .u64 p.set.b, .int .u64 p.set.c, .int .u64 p.set.d, .int .i64 p.lo, .int .i64 p.hi, .int .i64 p.gr, .slice ad 1 cap]] w (TPost BB go (Re.mk p [x0]).csize (Re.mk p [x0]).gen L false w) := by
  have HT := hid htree
  have HOP := hid ho
  clear ho
  have HBW := hid hbw
  have hal := (Below.refl w.heap.size w).alloc (Nat.le_refl _) (.cells #[.int .i64 p.op, .int .u64 p.set.a, .int .u64 p.set.b, .int .u64 p.set.c, .int .u64 p.set.d, .int .i64 p.lo, .int .i64 p.hi, .int .i64 p.gr, .slice ad 1 cap] 28)
  have HBA := hid (hB.below hal)
  have HB0 := hid hB
  have HBWA := hid (hbw.trans (hal.mono hbw.size))
  have HFA := hid (FrB.of_below (BB := BB) (go := go) hal)
  have HOG : Hid (∀ g, go = some g → wb.heap.size ≤ g) := fun g hg => by have := (hB.own g hg).1; omega
  have hBB := hB.lt
  have hL := hB.len
  have HRE := hid (Row.new (w := w) (B := w.heap.size) (cs := [.int .i64 p.op, .int .u64 p.set.a, .int .u64 p.set.b, .int .u64 p.set.c, .int .u64 p.set.d, .int .i64 p.lo, .int .i64 p.hi, .int .i64 p.gr, .slice ad 1 cap]) (T := 28) rfl)
  have HALL := hid hall
  clear hal hall htree hbw hB
  rcases (show (p.lo == 1) = true ∨ (p.lo == 1) = false by cases (p.lo == 1) <;> simp) with dl | dl
  · skip
    obtain ⟨b, o, p', ad', n', cap', rfl, HC, HI0, hbb⟩ := HALL.out.kid HBWA.out 0 (by simp)
    have HC0 : Hid (CellsAt (w.alloc (.cells #[.int .i64 p.op, .int .u64 p.set.a, .int .u64 p.set.b, .int .u64 p.set.c, .int .u64 p.set.d, .int .i64 p.lo, .int .i64 p.hi, .int .i64 p.gr, .slice (some ⟨b, o, none⟩) 1 cap] 28)) b o [.int .i64 p'.op, .int .u64 p'.set.a, .int .u64 p'.set.b, .int .u64 p'.set.c, .int .u64 p'.set.d, .int .i64 p'.lo, .int .i64 p'.hi, .int .i64 p'.gr, .slice ad' n' cap']) := HC
    clear HC
    have q0 := HRE.out.c9
    have HCG := hid (Re.rep1 p x0 HOP.out (by simpa using dl))
    have HTC := hid (HT.out _ _ go L false HI0.out HBWA.out HBA.out (fun e => by cases e))
    obtain ⟨a1, c1, hrow⟩ := HB0.out.row
    have q1 := hrow.c2
    go_enter Tryd.func34, Tryd.ntmps34
    go_wp2_with (first | (with_reducible (refine wpList_load_agg rfl 28 _ rfl b o rfl _ _ HC0.out Tryd.underlying28 rfl (size_re9 _ _ _ _ _ _ _ _ _) ?_)))
    refine HTC.out.mono ?_
    unfold TPost BPost
    rintro e w1 ⟨L1, o1, rfl, hs1, go1, hb1, hg1, hf1⟩
    have hl1 := hb1.len
    have HST := hid (rep_one (Re.gen_len x0) hs1 hl1)
    have HAD := hid (addLit_any BB 2 (L.length : Nat) 0 L1 o1 w1 go1 hb1)
    have HG1 : Hid (GoTo w go go1) := by
      rcases hg1 with h | ⟨g, h, h2⟩
      · exact .inl h
      · exact .inr ⟨g, h, by simp at h2; omega⟩
    have HF1 : Hid (FrB BB go w w1) := HFA.out.trans (.inl rfl) hf1
    clear hs1 hg1 hf1 HTC HC0 HI0 q0 q1 hrow hb1
    go_wp2_with fail
    refine HAD.out.mono ?_
    unfold BPost
    rintro e w2 ⟨rfl, go2, hb2, hg2, hf2⟩
    have HB2 := hid hb2
    have hkl : addK L1 < (addL L1 ⟨2, Cs.none, (L.length : Nat), 0⟩).length := (addL_len L1 _ hl1).1
    obtain ⟨g, c, f, k0, k1, k2, k3, k4, k5, k6, k7⟩ := HB2.out.opens (addK L1) hkl
    have q1 := k1.c2
    have z1 := k1.lt
    have q2 := k4.c7i
    have q3 := k5 (addK L1 * 7 + 6)
    have hl2 := HB2.out.len
    have HK7 := hid (k7 ((addK L1 : Nat) + 1))
    have HG2 : Hid (GoTo w go go2) := HG1.out.trans HF1.out.size hg2
    have HF2 : Hid (FrB BB go w w2) := HF1.out.trans HG1.out hf2
    have HK0 := hid k0
    have HST' : Hid (StR (x0.csize + 1) (fun n => x0.gen n ++ [isplit n (n + x0.csize + 1 : Nat)]) L false (setY (addL L1 ⟨2, Cs.none, (L.length : Nat), 0⟩) (addK L1) ((addK L1 : Nat) + 1)) (addO L1 o1)) := HST
    clear hg2 k0 hb2 hf2 k1 k4 k5 k6 k7 HAD HST
    generalize addL L1 ⟨2, Cs.none, (L.length : Nat), 0⟩ = L2 at *
    generalize addK L1 = kk at *
    go_wp2_with fail
    go_end0
    refine ⟨_, _, rfl, ?_, go2, HK7.out, HG2.out, HF2.out.trans HG2.out ?_⟩
    · rw [HCG.out.1, HCG.out.2]; exact HST'.out
    · rw [HK0.out]; exact FrB.set _ _
  · have HSP := hid (split_any BB L false _ go HBA.out)
    have hkL : addK L ≤ 4096 := by unfold addK; split <;> omega
    go_enter Tryd.func34, Tryd.ntmps34
    go_wp2_with fail
    refine HSP.out.mono ?_
    unfold BPost
    rintro e w1 ⟨rfl, go1, hb1, hg1, hf1⟩
    have HG1 : Hid (GoTo w go go1) := by
      rcases hg1 with h | ⟨g, h, h2⟩
      · exact .inl h
      · exact .inr ⟨g, h, by simp at h2; omega⟩
    have HF1 : Hid (FrB BB go w w1) := HFA.out.trans (.inl rfl) hf1
    have HBR1 : Hid (Below wb.heap.size wb w1) := HBW.out.trans (HF1.out.below HBW.out.size hwb HOG.out)
    have HRE1 := hid (HBA.out.row_kept hf1 HRE.out (by omega) (by decide))
    obtain ⟨b, o, p', ad', n', cap', rfl, HC, HI0, hbb⟩ := HALL.out.kid HBR1.out 0 (by simp)
    have HC0 : Hid (CellsAt w1 b o [.int .i64 p'.op, .int .u64 p'.set.a, .int .u64 p'.set.b, .int .u64 p'.set.c, .int .u64 p'.set.d, .int .i64 p'.lo, .int .i64 p'.hi, .int .i64 p'.gr, .slice ad' n' cap']) := HC
    have q0 := HRE1.out.c9
    have HBB1 := hid hb1
    have HTC := hid (HT.out w1 _ go1 (splitL L) (addO L false) HI0.out HBR1.out hb1 (fun e => split_full hL e))
    clear hb1 hg1 hf1 HSP HC HI0
    go_wp2_with (first | (with_reducible (refine wpList_load_agg rfl 28 _ rfl b o rfl _ _ HC0.out Tryd.underlying28 rfl (size_re9 _ _ _ _ _ _ _ _ _) ?_)))
    refine HTC.out.mono ?_
    unfold TPost BPost
    rintro e w2 ⟨L2, o2, rfl, hs2, go2, hb2, hg2, hf2⟩
    have hl2 := hb2.len
    have hkl : addK L < L2.length := by
      have h1 := (addL_len L (isplit 0 0) hL).1
      have h2 := splitL_len L
      have h3 := hs2.len
      omega
    have HG2 : Hid (GoTo w go go2) := HG1.out.trans HF1.out.size hg2
    have HF2 : Hid (FrB BB go w w2) := HF1.out.trans HG1.out hf2
    have HRE2 := hid (HBB1.out.row_kept hf2 HRE1.out (by omega) (by decide))
    have HB2 := hid hb2
    have HS2 := hid hs2
    clear q0 hb2 hg2 hf2 hs2 HTC HRE1
    have q0 := HRE2.out.c9
    rcases (show decide (p.hi < 0) = true ∨ decide (p.hi < 0) = false by cases decide (p.hi < 0) <;> simp) with dh | dh
    · have HCG := hid (Re.rep3 p x0 HOP.out (by simpa using dl) (by simpa using dh))
      have HST := hid (rep_star (Re.gen_len x0) HS2.out hL hl2)
      have HAD := hid (addLit_any BB 3 (addK L : Nat) 0 L2 o2 w2 go2 HB2.out)
      clear HS2
      go_wp2_with fail
      refine HAD.out.mono ?_
      unfold BPost
      rintro e w3 ⟨rfl, go3, hb3, hg3, hf3⟩
      have HG3 : Hid (GoTo w go go3) := HG2.out.trans HF2.out.size hg3
      have HF3 : Hid (FrB BB go w w3) := HF2.out.trans HG2.out hf3
      have HST' : Hid (StR (x0.csize + 2) (fun n => isplit (n + 1 : Nat) (n + 2 + x0.csize : Nat) :: (x0.gen (n + 1) ++ [ijump n])) L false (setY (addL L2 ⟨3, Cs.none, (addK L : Nat), 0⟩) (addK L) ((addL L2 ⟨3, Cs.none, (addK L : Nat), 0⟩).length : Nat)) (addO L2 o2)) := HST
      have hkl3 : addK L < (addL L2 ⟨3, Cs.none, (addK L : Nat), 0⟩).length := by
        have : L2.length ≤ (addL L2 ⟨3, Cs.none, (addK L : Nat), 0⟩).length := by unfold addL; split <;> simp
        omega
      have HB3 := hid hb3
      clear hb3 hg3 hf3 HAD HST HG2 HF2 HB2
      clear hl2
      have hl3 := HB3.out.len
      have HC : Hid (∀ x, Below w3.heap.size w3.drew x → ∃ (g c : Nat) (f : Inst), go3 = some g ∧ Row x BB [.slice (some ⟨g, 0, none⟩) (addL L2 ⟨3, Cs.none, (addK L : Nat), 0⟩).length c, .bool (addO L2 o2)] 60 ∧ BB + 1 ≤ g ∧ g < x.heap.size ∧ CellsAt x g (addK L * 7) f.cells ∧ (∀ i, x.frozen? ⟨g, i, none⟩ = false) ∧ BldAt (x.setCell ⟨g, addK L * 7 + 6, none⟩ (.int .i64 ((addL L2 ⟨3, Cs.none, (addK L : Nat), 0⟩).length : Nat))) BB go3 (setY (addL L2 ⟨3, Cs.none, (addK L : Nat), 0⟩) (addK L) ((addL L2 ⟨3, Cs.none, (addK L : Nat), 0⟩).length : Nat)) (addO L2 o2)) := fun x hx => by
        obtain ⟨g, c, f, k0, k1, k2, k3, k4, k5, k6, k7⟩ := (HB3.out.below ((Below.refl _ w3).drew.trans hx)).opens (addK L) hkl3
        exact ⟨g, c, f, k0, k1, k2, k3, k4, k5, k7 _⟩
      obtain ⟨g, c0, f0, k0, k1, -, -, -, -, -⟩ := HC.out w3.drew (Below.refl _ _)
      have HC2 : Hid (∀ x, Below w3.heap.size w3.drew x → x.cell? ⟨BB, 0, none⟩ = some (.slice (some ⟨g, 0, none⟩) (addL L2 ⟨3, Cs.none, (addK L : Nat), 0⟩).length c0)) := fun x hx => by
        have hz := HB3.out.lt
        exact (k1.below hx hz).cell 0
      have HK0 := hid k0
      clear k1 k0
      generalize addL L2 ⟨3, Cs.none, (addK L : Nat), 0⟩ = L4 at *
      generalize addK L = kk at *
      go_wp2_with fail
      refine wp_region_inv 12 (Below w3.heap.size) (by kernel_rfl) (by kernel_rfl) (Below.refl _) (fun _ _ _ => Below.trans) ?_
      simp only [fill, dstOf, Act.put, List.take_succ_cons, List.take_zero, List.getElem?_toArray, List.getElem?_cons_zero, List.getElem?_cons_succ, Option.bind_some, List.setIfInBounds_toArray, List.set_cons_zero, List.set_cons_succ]
      refine Plan.det 1 rfl (Below.refl _) ?_
      apply Exists.intro
      refine ⟨fun vs x hR hF K hK => ?_, ?_⟩
      · clear hF
        go_simp
        exact hK _ _ (Below.refl _ _) rfl
      refine Plan.det 2 rfl (Below.refl _) ?_
      apply Exists.intro
      refine ⟨fun vs x hR hF K hK => ?_, ?_⟩
      · have f0 := hF 0 _ _ rfl rfl; clear hF
        go_simp
        exact hK _ _ (Below.refl _ _) rfl
      refine Plan.det 3 rfl (Below.refl _) ?_
      apply Exists.intro
      refine ⟨fun vs x hR hF K hK => ?_, ?_⟩
      · have f1 := hF 0 _ _ rfl rfl; clear hF
        go_simp
        exact hK _ _ (Below.refl _ _) rfl
      refine Plan.det 4 rfl (Below.refl _) ?_
      apply Exists.intro
      refine ⟨fun vs x hR hF K hK => ?_, ?_⟩
      · have f2 := hF 0 _ _ rfl rfl; have hc := HC2.out x hR; clear hF
        go_simp
        exact hK _ _ (Below.refl _ _) rfl
      refine Plan.det 5 rfl (Below.refl _) ?_
      apply Exists.intro
      refine ⟨fun vs x hR hF K hK => ?_, ?_⟩
      · clear hF
        go_simp
        exact hK _ _ (Below.refl _ _) rfl
      refine Plan.det 6 rfl (Below.refl _) ?_
      apply Exists.intro
      refine ⟨fun vs x hR hF K hK => ?_, ?_⟩
      · clear hF
        go_simp
        exact hK _ _ (Below.refl _ _) rfl
      refine Plan.det 7 rfl (Below.refl _) ?_
      apply Exists.intro
      refine ⟨fun vs x hR hF K hK => ?_, ?_⟩
      · have f5 := hF 0 _ _ rfl rfl; clear hF
        go_simp
        exact hK _ _ (Below.refl _ _) rfl
      refine Plan.det 8 rfl (Below.refl _) ?_
      apply Exists.intro
      refine ⟨fun vs x hR hF K hK => ?_, ?_⟩
      · have f6 := hF 0 _ _ rfl rfl; clear hF
        go_simp
        exact hK _ _ (Below.refl _ _) rfl
      refine Plan.det 9 rfl (Below.refl _) ?_
      apply Exists.intro
      refine ⟨fun vs x hR hF K hK => ?_, ?_⟩
      · have f7 := hF 0 _ _ rfl rfl; have hc := HC2.out x hR; clear hF
        go_simp
        exact hK _ _ (Below.refl _ _) rfl
      refine Plan.det 10 rfl (Below.refl _) ?_
      apply Exists.intro
      refine ⟨fun vs x hR hF K hK => ?_, ?_⟩
      · have f8 := hF 0 _ _ rfl rfl; clear hF
        go_simp
        exact hK _ _ (Below.refl _ _) rfl
      refine Plan.det 11 rfl (Below.refl _) ?_
      apply Exists.intro
      refine ⟨fun vs x hR hF K hK => ?_, ?_⟩
      · have f0 := hF 9 _ _ rfl rfl; have f1 := hF 8 _ _ rfl rfl; have f2 := hF 7 _ _ rfl rfl; have f3 := hF 6 _ _ rfl rfl; have f4 := hF 5 _ _ rfl rfl; have f5 := hF 4 _ _ rfl rfl; have f6 := hF 3 _ _ rfl rfl; have f7 := hF 2 _ _ rfl rfl; have f8 := hF 1 _ _ rfl rfl; have f9 := hF 0 _ _ rfl rfl; clear hF
        go_simp
        exact hK _ _ (Below.refl _ _) rfl
      refine Plan.det 12 rfl (Below.refl _) ?_
      apply Exists.intro
      refine ⟨fun vs x hR hF K hK => ?_, ?_⟩
      · have f0 := hF 10 _ _ rfl rfl; have f1 := hF 9 _ _ rfl rfl; have f2 := hF 8 _ _ rfl rfl; have f3 := hF 7 _ _ rfl rfl; have f4 := hF 6 _ _ rfl rfl; have f5 := hF 5 _ _ rfl rfl; have f6 := hF 4 _ _ rfl rfl; have f7 := hF 3 _ _ rfl rfl; have f8 := hF 2 _ _ rfl rfl; have f9 := hF 1 _ _ rfl rfl; have f10 := hF 0 _ _ rfl rfl; clear hF
        go_simp
        exact hK _ _ (Below.refl _ _) rfl
      refine Plan.nil (fun vs x hR hF => ?_)
      have f0 := hF 11 _ _ rfl; have f1 := hF 10 _ _ rfl; have f2 := hF 9 _ _ rfl; have f3 := hF 8 _ _ rfl; have f4 := hF 7 _ _ rfl; have f5 := hF 6 _ _ rfl; have f6 := hF 5 _ _ rfl; have f7 := hF 4 _ _ rfl; have f8 := hF 3 _ _ rfl; have f9 := hF 2 _ _ rfl; have f10 := hF 1 _ _ rfl; have f11 := hF 0 _ _ rfl
      clear hF
      simp only [f0, f1, f2, f3, f4, f5, f6, f7, f8, f9, f10, f11]
      clear f0 f1 f2 f3 f4 f5 f6 f7 f8 f9 f10 f11
      simp only [List.drop_succ_cons, List.drop_zero]
      obtain ⟨g', c', f', e1, q1, q2, q3, q4, q5, q6⟩ := HC.out x hR
      have e2 : g' = g := by have h := e1.symm.trans HK0.out; exact Option.some.inj h
      subst e2
      have q7 := q4.c7i
      have q8 := q5 (kk * 7 + 6)
      have HQ6 := hid q6
      have HRX := hid hR
      clear q0 q1 q4 q5 q6 hR HC2 HC
      go_wp2_with fail
      go_end0
      have hfx : FrB BB go3 w3 (x.setCell ⟨g', kk * 7 + 6, none⟩ (.int .i64 (L4.length : Nat))) := by
        rw [HK0.out]
        exact (FrB.of_below ((Below.refl _ w3).drew.trans HRX.out)).trans (.inl rfl) (FrB.set _ _)
      refine ⟨_, _, rfl, ?_, go3, HQ6.out, HG3.out, HF3.out.trans HG3.out hfx⟩
      rw [HCG.out.1, HCG.out.2]
      exact HST'.out
    · have HCG := hid (Re.rep2 p x0 HOP.out (by simpa using dl) (by simpa using dh))
      have HST := hid (rep_opt (Re.gen_len x0) HS2.out hL)
      clear HS2
      have HC : Hid (∀ x, Below w2.heap.size w2.drew x → ∃ (g c : Nat) (f : Inst), go2 = some g ∧ Row x BB [.slice (some ⟨g, 0, none⟩) (L2).length c, .bool (o2)] 60 ∧ BB + 1 ≤ g ∧ g < x.heap.size ∧ CellsAt x g (addK L * 7) f.cells ∧ (∀ i, x.frozen? ⟨g, i, none⟩ = false) ∧ BldAt (x.setCell ⟨g, addK L * 7 + 6, none⟩ (.int .i64 ((L2).length : Nat))) BB go2 (setY (L2) (addK L) ((L2).length : Nat)) (o2)) := fun x hx => by
        obtain ⟨g, c, f, k0, k1, k2, k3, k4, k5, k6, k7⟩ := (HB2.out.below ((Below.refl _ w2).drew.trans hx)).opens (addK L) hkl
        exact ⟨g, c, f, k0, k1, k2, k3, k4, k5, k7 _⟩
      obtain ⟨g, c0, f0, k0, k1, -, -, -, -, -⟩ := HC.out w2.drew (Below.refl _ _)
      have HC2 : Hid (∀ x, Below w2.heap.size w2.drew x → x.cell? ⟨BB, 0, none⟩ = some (.slice (some ⟨g, 0, none⟩) (L2).length c0)) := fun x hx => by
        have hz := HB2.out.lt
        exact (k1.below hx hz).cell 0
      have HK0 := hid k0
      clear k1 k0
      generalize addK L = kk at *
      go_wp2_with fail
      refine wp_region_inv 12 (Below w2.heap.size) (by kernel_rfl) (by kernel_rfl) (Below.refl _) (fun _ _ _ => Below.trans) ?_
      simp only [fill, dstOf, Act.put, List.take_succ_cons, List.take_zero, List.getElem?_toArray, List.getElem?_cons_zero, List.getElem?_cons_succ, Option.bind_some, List.setIfInBounds_toArray, List.set_cons_zero, List.set_cons_succ]
      refine Plan.det 1 rfl (Below.refl _) ?_
      apply Exists.intro
      refine ⟨fun vs x hR hF K hK => ?_, ?_⟩
      · clear hF
        go_simp
        exact hK _ _ (Below.refl _ _) rfl
      refine Plan.det 2 rfl (Below.refl _) ?_
      apply Exists.intro
      refine ⟨fun vs x hR hF K hK => ?_, ?_⟩
      · have f0 := hF 0 _ _ rfl rfl; clear hF
        go_simp
        exact hK _ _ (Below.refl _ _) rfl
      refine Plan.det 3 rfl (Below.refl _) ?_
      apply Exists.intro
      refine ⟨fun vs x hR hF K hK => ?_, ?_⟩
      · have f1 := hF 0 _ _ rfl rfl; clear hF
        go_simp
        exact hK _ _ (Below.refl _ _) rfl
      refine Plan.det 4 rfl (Below.refl _) ?_
      apply Exists.intro
      refine ⟨fun vs x hR hF K hK => ?_, ?_⟩
      · have f2 := hF 0 _ _ rfl rfl; have hc := HC2.out x hR; clear hF
        go_simp
        exact hK _ _ (Below.refl _ _) rfl
      refine Plan.det 5 rfl (Below.refl _) ?_
      apply Exists.intro
      refine ⟨fun vs x hR hF K hK => ?_, ?_⟩
      · clear hF
        go_simp
        exact hK _ _ (Below.refl _ _) rfl
      refine Plan.det 6 rfl (Below.refl _) ?_
      apply Exists.intro
      refine ⟨fun vs x hR hF K hK => ?_, ?_⟩
      · clear hF
        go_simp
        exact hK _ _ (Below.refl _ _) rfl
      refine Plan.det 7 rfl (Below.refl _) ?_
      apply Exists.intro
      refine ⟨fun vs x hR hF K hK => ?_, ?_⟩
      · have f5 := hF 0 _ _ rfl rfl; clear hF
        go_simp
        exact hK _ _ (Below.refl _ _) rfl
      refine Plan.det 8 rfl (Below.refl _) ?_
      apply Exists.intro
      refine ⟨fun vs x hR hF K hK => ?_, ?_⟩
      · have f6 := hF 0 _ _ rfl rfl; clear hF
        go_simp
        exact hK _ _ (Below.refl _ _) rfl
      refine Plan.det 9 rfl (Below.refl _) ?_
      apply Exists.intro
      refine ⟨fun vs x hR hF K hK => ?_, ?_⟩
      · have f7 := hF 0 _ _ rfl rfl; have hc := HC2.out x hR; clear hF
        go_simp
        exact hK _ _ (Below.refl _ _) rfl
      refine Plan.det 10 rfl (Below.refl _) ?_
      apply Exists.intro
      refine ⟨fun vs x hR hF K hK => ?_, ?_⟩
      · have f8 := hF 0 _ _ rfl rfl; clear hF
        go_simp
        exact hK _ _ (Below.refl _ _) rfl
      refine Plan.det 11 rfl (Below.refl _) ?_
      apply Exists.intro
      refine ⟨fun vs x hR hF K hK => ?_, ?_⟩
      · have f0 := hF 9 _ _ rfl rfl; have f1 := hF 8 _ _ rfl rfl; have f2 := hF 7 _ _ rfl rfl; have f3 := hF 6 _ _ rfl rfl; have f4 := hF 5 _ _ rfl rfl; have f5 := hF 4 _ _ rfl rfl; have f6 := hF 3 _ _ rfl rfl; have f7 := hF 2 _ _ rfl rfl; have f8 := hF 1 _ _ rfl rfl; have f9 := hF 0 _ _ rfl rfl; clear hF
        go_simp
        exact hK _ _ (Below.refl _ _) rfl
      refine Plan.det 12 rfl (Below.refl _) ?_
      apply Exists.intro
      refine ⟨fun vs x hR hF K hK => ?_, ?_⟩
      · have f0 := hF 10 _ _ rfl rfl; have f1 := hF 9 _ _ rfl rfl; have f2 := hF 8 _ _ rfl rfl; have f3 := hF 7 _ _ rfl rfl; have f4 := hF 6 _ _ rfl rfl; have f5 := hF 5 _ _ rfl rfl; have f6 := hF 4 _ _ rfl rfl; have f7 := hF 3 _ _ rfl rfl; have f8 := hF 2 _ _ rfl rfl; have f9 := hF 1 _ _ rfl rfl; have f10 := hF 0 _ _ rfl rfl; clear hF
        go_simp
        exact hK _ _ (Below.refl _ _) rfl
      refine Plan.nil (fun vs x hR hF => ?_)
      have f0 := hF 11 _ _ rfl; have f1 := hF 10 _ _ rfl; have f2 := hF 9 _ _ rfl; have f3 := hF 8 _ _ rfl; have f4 := hF 7 _ _ rfl; have f5 := hF 6 _ _ rfl; have f6 := hF 5 _ _ rfl; have f7 := hF 4 _ _ rfl; have f8 := hF 3 _ _ rfl; have f9 := hF 2 _ _ rfl; have f10 := hF 1 _ _ rfl; have f11 := hF 0 _ _ rfl
      clear hF
      simp only [f0, f1, f2, f3, f4, f5, f6, f7, f8, f9, f10, f11]
      clear f0 f1 f2 f3 f4 f5 f6 f7 f8 f9 f10 f11
      simp only [List.drop_succ_cons, List.drop_zero]
      obtain ⟨g', c', f', e1, q1, q2, q3, q4, q5, q6⟩ := HC.out x hR
      have e2 : g' = g := by have h := e1.symm.trans HK0.out; exact Option.some.inj h
      subst e2
      have q7 := q4.c7i
      have q8 := q5 (kk * 7 + 6)
      have HQ6 := hid q6
      have HRX := hid hR
      clear q0 q1 q4 q5 q6 hR HC2 HC
      go_wp2_with fail
      go_end0
      have hfx : FrB BB go2 w2 (x.setCell ⟨g', kk * 7 + 6, none⟩ (.int .i64 (L2.length : Nat))) := by
        rw [HK0.out]
        exact (FrB.of_below ((Below.refl _ w2).drew.trans HRX.out)).trans (.inl rfl) (FrB.set _ _)
      refine ⟨_, _, rfl, ?_, go2, HQ6.out, HG2.out, HF2.out.trans HG2.out hfx⟩
      rw [HCG.out.1, HCG.out.2]
      exact HST.out
end Go.Proofs.YthnpbopnpdlmnaaDoor

/- The program's tree. -/
namespace Go.Proofs.YthnpbopnpdlmnaaDoor
open Go.RowKit
attribute [local go_sem] gives givesUpon

mutual
def Re.fine : Re → Prop
  | .mk p xs => (p.op = 4 → 1 ≤ xs.length) ∧ (p.op = 5 → xs.length = 1) ∧ ((p.op = 6 → xs.length = 1) ∧ (p.op = 3 ∨ p.op = 4 ∨ p.op = 5 ∨ p.op = 6 ∨ xs = [])) ∧ Re.fines xs
def Re.fines : List Re → Prop
  | [] => True
  | t :: ts => t.fine ∧ Re.fines ts
end
theorem Re.fines_mem : ∀ (xs : List Re), Re.fines xs → ∀ a, a ∈ xs → a.fine
  | t :: ts, h, a, ha => by
    rw [Re.fines] at h
    rcases List.mem_cons.1 ha with rfl | ha
    · exact h.1
    · exact Re.fines_mem ts h.2 a ha
theorem Re.csizes_app : ∀ (xs ys : List Re), Re.csizes (xs ++ ys) = Re.csizes xs + Re.csizes ys
  | [], ys => by simp [Re.csizes]
  | t :: ts, ys => by rw [List.cons_append, Re.csizes, Re.csizes, Re.csizes_app ts ys]; omega
theorem Re.gens_app : ∀ (xs ys : List Re) (n : Nat), Re.gens (xs ++ ys) n = Re.gens xs n ++ Re.gens ys (n + Re.csizes xs)
  | [], ys, n => by simp [Re.gens, Re.csizes]
  | t :: ts, ys, n => by rw [List.cons_append, Re.gens, Re.gens, Re.csizes, Re.gens_app ts ys, List.append_assoc, Nat.add_assoc]
theorem StR.kids {xs : List Re} {k : Nat} (hk : k < xs.length) {L M N : List Inst} {a b c : Bool} (h : StR (Re.csizes (xs.take k)) (Re.gens (xs.take k)) L a M b) (h2 : StR xs[k].csize xs[k].gen M b N c) : StR (Re.csizes (xs.take (k + 1))) (Re.gens (xs.take (k + 1))) L a N c := by
  have htk : xs.take (k + 1) = xs.take k ++ [xs[k]] := by rw [List.take_add_one, List.getElem?_eq_getElem hk]; rfl
  have h3 := h.trans h2 (Re.gens_len _)
  have e1 : Re.csizes (xs.take (k + 1)) = Re.csizes (xs.take k) + xs[k].csize := by rw [htk, Re.csizes_app]; simp [Re.csizes]
  have e2 : Re.gens (xs.take (k + 1)) = fun n => Re.gens (xs.take k) n ++ xs[k].gen (n + Re.csizes (xs.take k)) := by
    funext n
    rw [htk, Re.gens_app]; simp [Re.gens]
  rw [e1, e2]
  exact h3
theorem FrB.go0 {go go1 : Option Nat} {w : World} {o : Obj} (h : GoTo (w.alloc o) go go1) : GoTo w go go1 := by
  rcases h with h | ⟨g, h, h2⟩
  · exact .inl h
  · exact .inr ⟨g, h, by simp at h2; omega⟩

set_option maxRecDepth 100000 in
set_option maxHeartbeats 8000000 in
theorem btree_any {wb : World} (BB : Nat) (hwb : wb.heap.size ≤ BB) (t : Re) : t.fine → t.size ≤ 1048576 → ∀ (w : World) (cs : List Value) (go : Option Nat) (L : List Inst) (ov : Bool), t.In wb cs → Below wb.heap.size wb w → BldAt w BB go L ov → (ov = true → L.length = 4096) →
    Calls Tryd.prog 19 #[.pointer (some ⟨BB, 0, none⟩), .agg cs.toArray] w (TPost BB go t.csize t.gen L ov w) := by
  induction t using Re.ind with
  | h p xs ih =>
    intro hfine hsz w cs go L ov hIn hbw hB hfull
    rw [Re.fine] at hfine
    obtain ⟨hf4, hf5, -, hfs⟩ := hfine
    rw [Re.In] at hIn
    obtain ⟨ad, cap, rfl, hwf, hlc, hcm, hnil, hall⟩ := hIn
    rw [Re.size_mk] at hsz
    have hlen := Re.sizes_len xs
    have HIH : Hid (∀ a, a ∈ xs → ∀ (w : World) (cs : List Value) (go : Option Nat) (L : List Inst) (ov : Bool), a.In wb cs → Below wb.heap.size wb w → BldAt w BB go L ov → (ov = true → L.length = 4096) → Calls Tryd.prog 19 #[.pointer (some ⟨BB, 0, none⟩), .agg cs.toArray] w (TPost BB go a.csize a.gen L ov w)) := fun a ha => ih a ha (Re.fines_mem xs hfs a ha) (by
      obtain ⟨i, hi, rfl⟩ := List.getElem_of_mem ha
      have := Re.size_get (xs := xs) (i := i) (a := xs[i]) (by simp)
      omega)
    have HAL := hid hall
    have HBW := hid hbw
    have hal := (Below.refl w.heap.size w).alloc (Nat.le_refl _) (.cells #[.int .i64 p.op, .int .u64 p.set.a, .int .u64 p.set.b, .int .u64 p.set.c, .int .u64 p.set.d, .int .i64 p.lo, .int .i64 p.hi, .int .i64 p.gr, .slice ad xs.length cap] 28)
    have HBA := hid (hB.below hal)
    have HBWA := hid (hbw.trans (hal.mono hbw.size))
    have HFA := hid (FrB.of_below (BB := BB) (go := go) hal)
    have HOG : Hid (∀ g, go = some g → wb.heap.size ≤ g) := fun g hg => by have := (hB.own g hg).1; omega
    have hBB := hB.lt
    have hL := hB.len
    have HRE := hid (Row.new (w := w) (B := w.heap.size) (cs := [.int .i64 p.op, .int .u64 p.set.a, .int .u64 p.set.b, .int .u64 p.set.c, .int .u64 p.set.d, .int .i64 p.lo, .int .i64 p.hi, .int .i64 p.gr, .slice ad xs.length cap]) (T := 28) rfl)
    have q0 := HRE.out.c9
    obtain ⟨a1, c1, hrow⟩ := hB.row
    have q1 := hrow.c2
    have HF4 := hid hf4
    have HF5 := hid hf5
    have HFU := hid hfull
    clear ih hf4 hf5 hfs hall hbw hB hal hrow hfull hwf hnil
    simp only [Pay.cells]
    cases ov with
    | true =>
      have hL' : Hid (L.length = 4096) := HFU.out rfl
      go_enter Tryd.func19, Tryd.ntmps19
      go_wp2_with fail
      go_end0
      exact ⟨L, true, rfl, ⟨Nat.le_refl _, fun _ => hL'.out, fun _ => ⟨rfl, rfl⟩, fun e => (by cases e), fun e => (by cases e)⟩, go, HBA.out, .inl rfl, HFA.out⟩
    | false =>
      clear HFU
      by_cases o2 : p.op = 2
      · have HO := hid o2
        have d2 : (p.op == 2) = true := by simp [o2]
        clear o2
        have HAD := hid (add_any BB ⟨1, p.set, 0, 0⟩ L false _ go HBA.out)
        go_enter Tryd.func19, Tryd.ntmps19
        go_wp2_with fail
        refine HAD.out.mono ?_
        unfold BPost
        rintro e w2 ⟨rfl, go2, hb2, hg2, hf2⟩
        have HB2 := hid hb2
        have HG2 : Hid (GoTo w go go2) := FrB.go0 hg2
        have HF2 : Hid (FrB BB go w w2) := HFA.out.trans (.inl rfl) hf2
        have HST := hid (StR.add (L := L) (ov := false) (⟨1, p.set, 0, 0⟩) (fun e => (by cases e)) hL)
        clear hb2 hg2 hf2 HAD q0 q1
        go_wp2_with fail
        go_end0
        refine ⟨_, _, rfl, ?_, go2, HB2.out, HG2.out, HF2.out⟩
        have e1 : (Re.mk p xs).csize = 1 := by rw [Re.csize, if_pos (by have := HO.out; omega)]
        have e2 : (Re.mk p xs).gen = fun _ => [⟨1, p.set, 0, 0⟩] := by funext n; rw [Re.gen]; have := HO.out; simp [this]
        rw [e1, e2]
        exact HST.out
      by_cases o7 : p.op = 7
      · have HO := hid o7
        have d2 : (p.op == 2) = false := by simp [o7]
        have d7 : (p.op == 7) = true := by simp [o7]
        clear o2 o7
        have HAD := hid (addLit_any BB 4 0 0 L false _ go HBA.out)
        go_enter Tryd.func19, Tryd.ntmps19
        go_wp2_with fail
        refine HAD.out.mono ?_
        unfold BPost
        rintro e w2 ⟨rfl, go2, hb2, hg2, hf2⟩
        have HB2 := hid hb2
        have HG2 : Hid (GoTo w go go2) := FrB.go0 hg2
        have HF2 : Hid (FrB BB go w w2) := HFA.out.trans (.inl rfl) hf2
        have HST := hid (StR.add (L := L) (ov := false) (Inst.of 4) (fun e => (by cases e)) hL)
        clear hb2 hg2 hf2 HAD q0 q1
        go_wp2_with fail
        go_end0
        refine ⟨_, _, rfl, ?_, go2, HB2.out, HG2.out, HF2.out⟩
        have e1 : (Re.mk p xs).csize = 1 := by rw [Re.csize, if_pos (by have := HO.out; omega)]
        have e2 : (Re.mk p xs).gen = fun _ => [Inst.of 4] := by funext n; rw [Re.gen]; have := HO.out; simp [this]
        rw [e1, e2]
        exact HST.out
      by_cases o8 : p.op = 8
      · have HO := hid o8
        have d2 : (p.op == 2) = false := by simp [o8]
        have d7 : (p.op == 7) = false := by simp [o8]
        have d8 : (p.op == 8) = true := by simp [o8]
        clear o2 o7 o8
        have HAD := hid (addLit_any BB 5 0 0 L false _ go HBA.out)
        go_enter Tryd.func19, Tryd.ntmps19
        go_wp2_with fail
        refine HAD.out.mono ?_
        unfold BPost
        rintro e w2 ⟨rfl, go2, hb2, hg2, hf2⟩
        have HB2 := hid hb2
        have HG2 : Hid (GoTo w go go2) := FrB.go0 hg2
        have HF2 : Hid (FrB BB go w w2) := HFA.out.trans (.inl rfl) hf2
        have HST := hid (StR.add (L := L) (ov := false) (Inst.of 5) (fun e => (by cases e)) hL)
        clear hb2 hg2 hf2 HAD q0 q1
        go_wp2_with fail
        go_end0
        refine ⟨_, _, rfl, ?_, go2, HB2.out, HG2.out, HF2.out⟩
        have e1 : (Re.mk p xs).csize = 1 := by rw [Re.csize, if_pos (by have := HO.out; omega)]
        have e2 : (Re.mk p xs).gen = fun _ => [Inst.of 5] := by funext n; rw [Re.gen]; have := HO.out; simp [this]
        rw [e1, e2]
        exact HST.out
      by_cases o4 : p.op = 4
      · have HO := hid o4
        have d2 : (p.op == 2) = false := by simp [o4]
        have d7 : (p.op == 7) = false := by simp [o4]
        have d8 : (p.op == 8) = false := by simp [o4]
        have d4 : (p.op == 4) = true := by simp [o4]
        clear o2 o7 o8 o4
        have HAD := hid (balt_any BB hwb xs ad cap _ go L HBWA.out HBA.out HAL.out (by omega) (HF4.out HO.out) (fun k hk w cs go L ov h1 h2 h3 h4 => HIH.out xs[k] (by simp) w cs go L ov h1 h2 h3 h4))
        go_enter Tryd.func19, Tryd.ntmps19
        go_wp2_with fail
        refine HAD.out.mono ?_
        unfold TPost BPost
        rintro e w2 ⟨L2, o2, rfl, hs2, go2, hb2, hg2, hf2⟩
        have HB2 := hid hb2
        have HG2 : Hid (GoTo w go go2) := FrB.go0 hg2
        have HF2 : Hid (FrB BB go w w2) := HFA.out.trans (.inl rfl) hf2
        have HS2 := hid hs2
        clear hb2 hg2 hf2 hs2 HAD q0 q1
        go_wp2_with fail
        go_end0
        refine ⟨_, _, rfl, ?_, go2, HB2.out, HG2.out, HF2.out⟩
        have ho := HO.out
        have e1 : (Re.mk p xs).csize = Re.asize xs := by rw [Re.csize, if_neg (by omega), if_pos HO.out]
        have e2 : (Re.mk p xs).gen = fun n => Re.galt xs n (n + Re.asize xs) := by funext n; rw [Re.gen, if_neg (by omega), if_neg (by omega), if_neg (by omega), if_pos HO.out]
        rw [e1, e2]
        exact HS2.out
      by_cases o5 : p.op = 5
      · obtain ⟨x0, rfl⟩ : ∃ x0, xs = [x0] := List.length_eq_one_iff.1 (HF5.out o5)
        have HO := hid o5
        have d2 : (p.op == 2) = false := by simp [o5]
        have d7 : (p.op == 7) = false := by simp [o5]
        have d8 : (p.op == 8) = false := by simp [o5]
        have d4 : (p.op == 4) = false := by simp [o5]
        have d5 : (p.op == 5) = true := by simp [o5]
        clear o2 o7 o8 o4 o5
        have HAD := hid (brepeat_any BB hwb p HO.out x0 ad cap _ go L HBWA.out HBA.out HAL.out (fun w cs go L ov h1 h2 h3 h4 => HIH.out x0 (by simp) w cs go L ov h1 h2 h3 h4))
        go_enter Tryd.func19, Tryd.ntmps19
        go_wp2_with fail
        refine HAD.out.mono ?_
        unfold TPost BPost
        rintro e w2 ⟨L2, o2, rfl, hs2, go2, hb2, hg2, hf2⟩
        have HB2 := hid hb2
        have HG2 : Hid (GoTo w go go2) := FrB.go0 hg2
        have HF2 : Hid (FrB BB go w w2) := HFA.out.trans (.inl rfl) hf2
        have HS2 := hid hs2
        clear hb2 hg2 hf2 hs2 HAD q0 q1
        go_wp2_with fail
        go_end0
        refine ⟨_, _, rfl, ?_, go2, HB2.out, HG2.out, HF2.out⟩
        exact HS2.out
      have HO : Hid (¬ (p.op = 2 ∨ p.op = 7 ∨ p.op = 8) ∧ p.op ≠ 2 ∧ p.op ≠ 7 ∧ p.op ≠ 8 ∧ p.op ≠ 4 ∧ p.op ≠ 5) := ⟨by omega, o2, o7, o8, o4, o5⟩
      have d2 : (p.op == 2) = false := by simp [o2]
      have d7 : (p.op == 7) = false := by simp [o7]
      have d8 : (p.op == 8) = false := by simp [o8]
      have d4 : (p.op == 4) = false := by simp [o4]
      have d5 : (p.op == 5) = false := by simp [o5]
      have HL0 := hid (StR.none (L := L) (ov := false) (fun e => (by cases e)) hL)
      clear o2 o7 o8 o4 o5 HF4 HF5
      go_enter Tryd.func19, Tryd.ntmps19
      go_wp2_with fail
      clear HBWA q0 q1
      go_loopw [15] (fun v wr => ∃ (k : Nat) (go' : Option Nat) (L' : List Inst) (ov' : Bool), k ≤ xs.length ∧ v = .int .i64 k ∧ Hid (StR (Re.csizes (xs.take k)) (Re.gens (xs.take k)) L false L' ov') ∧ Hid (BldAt wr BB go' L' ov' ∧ GoTo w go go' ∧ FrB BB go w wr)) (fun v _ => xs.length - (intOf v).toNat)
      case atStart => exact ⟨0, go, L, false, by omega, rfl, HL0.out, HBA.out, .inl rfl, HFA.out⟩
      case round =>
        obtain ⟨k, go', L', ov', hk, rfl, HS, HX⟩ := hrel
        rcases Nat.lt_or_ge k xs.length with hlt | hge
        · have HBR : Hid (Below wb.heap.size wb wr) := HBW.out.trans (HX.out.2.2.below HBW.out.size hwb HOG.out)
          obtain ⟨b, o, p', ad', n', cap', rfl, HC, HI0, hbb⟩ := HAL.out.kid HBR.out k hlt
          have hal := (Below.refl wr.heap.size wr).alloc (Nat.le_refl _) (.cells #[.int .i64 p'.op, .int .u64 p'.set.a, .int .u64 p'.set.b, .int .u64 p'.set.c, .int .u64 p'.set.d, .int .i64 p'.lo, .int .i64 p'.hi, .int .i64 p'.gr, .slice ad' n' cap'] 28)
          have HBA1 := hid (HX.out.1.below hal)
          have HBR1 := hid (HBR.out.trans (hal.mono HBR.out.size))
          have HF1 : Hid (FrB BB go w (wr.alloc (.cells #[.int .i64 p'.op, .int .u64 p'.set.a, .int .u64 p'.set.b, .int .u64 p'.set.c, .int .u64 p'.set.d, .int .i64 p'.lo, .int .i64 p'.hi, .int .i64 p'.gr, .slice ad' n' cap'] 28))) := HX.out.2.2.trans HX.out.2.1 (FrB.of_below hal)
          have HTC := hid (HIH.out xs[k] (by simp) _ _ go' L' ov' HI0.out HBR1.out HBA1.out HS.out.full)
          have hsz2 : w.heap.size ≤ wr.heap.size := HX.out.2.2.size
          clear hal
          go_wp2_with (first | (with_reducible (refine wpList_load_agg rfl 28 _ rfl b (o + (k * 9)) rfl _ _ HC.out Tryd.underlying28 rfl (size_re9 _ _ _ _ _ _ _ _ _) ?_)))
          refine HTC.out.mono ?_
          unfold TPost BPost
          rintro e w2 ⟨L2, o2, rfl, hs2, go2, hb2, hg2, hf2⟩
          have HB2 := hid hb2
          have HG2 : Hid (GoTo w go go2) := HX.out.2.1.trans (by simp; omega) hg2
          have HF2 : Hid (FrB BB go w w2) := HF1.out.trans HX.out.2.1 hf2
          have HS2 := hid (HS.out.kids hlt hs2)
          clear hb2 hg2 hf2 hs2 HTC HC HI0 HBA1 HBR1
          go_wp2_with fail
          go_roundw
          case rel => exact ⟨k + 1, go2, L2, o2, by omega, by go_num, HS2.out, HB2.out, HG2.out, HF2.out⟩
          case measure => simp [intOf]; omega
        · obtain rfl : k = xs.length := by omega
          go_wp2_with fail
          go_end0
          refine ⟨_, _, rfl, ?_, go', HX.out.1, HX.out.2.1, HX.out.2.2⟩
          have hs := HS.out
          rw [List.take_length] at hs
          have ho := HO.out
          have e1 : (Re.mk p xs).csize = Re.csizes xs := by rw [Re.csize, if_neg (by omega), if_neg (by omega), if_neg (by omega)]
          have e2 : (Re.mk p xs).gen = Re.gens xs := by funext n; rw [Re.gen, if_neg (by omega), if_neg (by omega), if_neg (by omega), if_neg (by omega), if_neg (by omega)]
          rw [e1, e2]
          exact hs
end Go.Proofs.YthnpbopnpdlmnaaDoor

/- The program's alt of two facts. -/
namespace Go.Proofs.YthnpbopnpdlmnaaDoor
open Go.RowKit
attribute [local go_sem] gives givesUpon


end Go.Proofs.YthnpbopnpdlmnaaDoor
