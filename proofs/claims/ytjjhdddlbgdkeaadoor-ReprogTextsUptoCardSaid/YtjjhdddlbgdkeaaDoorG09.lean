/- The program's repeat. -/
import Derived.Test.YtjjhdddlbgdkeaaDoorG06
import Derived.Test.YtjjhdddlbgdkeaaDoorG08
namespace Go.Proofs.YtjjhdddlbgdkeaaDoor
open Go.RowKit
attribute [local go_sem] gives givesUpon

theorem BldAt.row {w : World} {BB : Nat} {go : Option Nat} {L : List Inst} {ov : Bool} (h : BldAt w BB go L ov) : ∃ (a : Option Addr) (c : Nat), Row w BB [.slice a L.length c, .bool ov] 69 := by
  obtain ⟨a, c, k1, k2, k3, k4⟩ := h
  exact ⟨a, c, k1⟩
theorem BldAt.row_kept {w w' : World} {BB B : Nat} {go : Option Nat} {L : List Inst} {ov : Bool} {cs : List Value} {T : TypeId} (h : BldAt w BB go L ov) (hf : FrB BB go w w') (hr : Row w B cs T) (hB : BB ≠ B) (hT : T ≠ 35) : Row w' B cs T := by
  obtain ⟨a, c, k1, k2, k3, k4⟩ := h
  refine (hf.block B hr.lt (fun e => hB e.symm) (fun e => ?_)).trans hr
  rcases k2.2 with ⟨e1, _⟩ | ⟨g2, cap2, cur2, e1, _, e2, _⟩
  · rw [e1] at k4; rw [← k4] at e; simp [Value.ownBlock] at e
  · rw [e1] at k4; rw [← k4] at e
    simp [Value.ownBlock] at e
    subst e
    have hr' : w.heap[g2]? = some (.cells cs.toArray T) := hr
    rw [e2] at hr'
    have e := Option.some.inj hr'
    injection e with e3 e4
    exact hT e4.symm

-- def R9 := [.int .i64 p.op, .int .u64 p.set.a, .int .u64 p.set.b, .int .u64 p.set.c, .int .u64 p.set.d, .int .i64 p.lo, .int .i64 p.hi, .int .i64 p.gr, .slice ad 1 cap]
-- def S9 := [.int .i64 p.op, .int .u64 p.set.a, .int .u64 p.set.b, .int .u64 p.set.c, .int .u64 p.set.d, .int .i64 p.lo, .int .i64 p.hi, .int .i64 p.gr, .slice (some ⟨b, o, none⟩) 1 cap]
set_option maxRecDepth 100000 in
set_option maxHeartbeats 8000000 in
theorem brepeat_any {wb : World} (BB : Nat) (hwb : wb.heap.size ≤ BB) (p : Pay) (ho : p.op = 5) (x0 : Re) (ad : Option Addr) (cap : Nat) (w : World) (go : Option Nat) (L : List Inst) (hbw : Below wb.heap.size wb w) (hB : BldAt w BB go L false) (hall : Re.AllIn wb [x0] ad 0)
    (htree : ∀ (w : World) (cs : List Value) (go : Option Nat) (L : List Inst) (ov : Bool), x0.In wb cs → Below wb.heap.size wb w → BldAt w BB go L ov → (ov = true → L.length = 4096) → Calls Tryd.prog 32 #[.pointer (some ⟨BB, 0, none⟩), .agg cs.toArray] w (TPost BB go x0.csize x0.gen L ov w)) :
    Calls Tryd.prog 44 #[.pointer (some ⟨BB, 0, none⟩), .agg #[.int .i64 p.op, .int .u64 p.set.a, .int .u64 p.set.b, .int .u64 p.set.c, .int .u64 p.set.d, .int .i64 p.lo, .int .i64 p.hi, .int .i64 p.gr, .slice ad 1 cap]] w (TPost BB go (Re.mk p [x0]).csize (Re.mk p [x0]).gen L false w) := by
  have HT := hid htree
  have HOP := hid ho
  clear ho
  have HBW := hid hbw
  have hal := (Below.refl w.heap.size w).alloc (Nat.le_refl _) (.cells #[.int .i64 p.op, .int .u64 p.set.a, .int .u64 p.set.b, .int .u64 p.set.c, .int .u64 p.set.d, .int .i64 p.lo, .int .i64 p.hi, .int .i64 p.gr, .slice ad 1 cap] 53)
  have HBA := hid (hB.below hal)
  have HB0 := hid hB
  have HBWA := hid (hbw.trans (hal.mono hbw.size))
  have HFA := hid (FrB.of_below (BB := BB) (go := go) hal)
  have HOG : Hid (∀ g, go = some g → wb.heap.size ≤ g) := fun g hg => by have := (hB.own g hg).1; omega
  have hBB := hB.lt
  have hL := hB.len
  have HRE := hid (Row.new (w := w) (B := w.heap.size) (cs := [.int .i64 p.op, .int .u64 p.set.a, .int .u64 p.set.b, .int .u64 p.set.c, .int .u64 p.set.d, .int .i64 p.lo, .int .i64 p.hi, .int .i64 p.gr, .slice ad 1 cap]) (T := 53) rfl)
  have HALL := hid hall
  clear hal hall htree hbw hB
  rcases (show (p.lo == 1) = true ∨ (p.lo == 1) = false by cases (p.lo == 1) <;> simp) with dl | dl
  · skip
    obtain ⟨b, o, p', ad', n', cap', rfl, HC, HI0, hbb⟩ := HALL.out.kid HBWA.out 0 (by simp)
    have HC0 : Hid (CellsAt (w.alloc (.cells #[.int .i64 p.op, .int .u64 p.set.a, .int .u64 p.set.b, .int .u64 p.set.c, .int .u64 p.set.d, .int .i64 p.lo, .int .i64 p.hi, .int .i64 p.gr, .slice (some ⟨b, o, none⟩) 1 cap] 53)) b o [.int .i64 p'.op, .int .u64 p'.set.a, .int .u64 p'.set.b, .int .u64 p'.set.c, .int .u64 p'.set.d, .int .i64 p'.lo, .int .i64 p'.hi, .int .i64 p'.gr, .slice ad' n' cap']) := HC
    clear HC
    have q0 := HRE.out.c9
    have HCG := hid (Re.rep1 p x0 HOP.out (by simpa using dl))
    have HTC := hid (HT.out _ _ go L false HI0.out HBWA.out HBA.out (fun e => by cases e))
    obtain ⟨a1, c1, hrow⟩ := HB0.out.row
    have q1 := hrow.c2
    go_enter Tryd.func44, Tryd.ntmps44
    go_wp2_with (first | (with_reducible (refine wpList_load_agg rfl 53 _ rfl b o rfl _ _ HC0.out Tryd.underlying53 rfl (size_re9 _ _ _ _ _ _ _ _ _) ?_)))
    refine HTC.out.mono ?_
    unfold TPost BPost
    rintro e w1 ⟨L1, o1, rfl, hs1, go1, hb1, hg1, hf1⟩
    have hl1 := hb1.len
    have HST := hid (rep_one (Re.gen_len x0) hs1 hl1)
    have HAD := hid (addLit_any BB 2 (L.length : Nat) 0 L1 o1 w1 go1 hb1)
    have HG1 : Hid (GoTo w go go1) := by
      rcases hg1 with h | ⟨g, h, h2⟩
      · exact .inl h
      · exact .inr ⟨g, h, by simp at h2; omega⟩
    have HF1 : Hid (FrB BB go w w1) := HFA.out.trans (.inl rfl) hf1
    clear hs1 hg1 hf1 HTC HC0 HI0 q0 q1 hrow hb1
    go_wp2_with fail
    refine HAD.out.mono ?_
    unfold BPost
    rintro e w2 ⟨rfl, go2, hb2, hg2, hf2⟩
    have HB2 := hid hb2
    have hkl : addK L1 < (addL L1 ⟨2, Cs.none, (L.length : Nat), 0⟩).length := (addL_len L1 _ hl1).1
    obtain ⟨g, c, f, k0, k1, k2, k3, k4, k5, k6, k7⟩ := HB2.out.opens (addK L1) hkl
    have q1 := k1.c2
    have z1 := k1.lt
    have q2 := k4.c7i
    have q3 := k5 (addK L1 * 7 + 6)
    have hl2 := HB2.out.len
    have HK7 := hid (k7 ((addK L1 : Nat) + 1))
    have HG2 : Hid (GoTo w go go2) := HG1.out.trans HF1.out.size hg2
    have HF2 : Hid (FrB BB go w w2) := HF1.out.trans HG1.out hf2
    have HK0 := hid k0
    have HST' : Hid (StR (x0.csize + 1) (fun n => x0.gen n ++ [isplit n (n + x0.csize + 1 : Nat)]) L false (setY (addL L1 ⟨2, Cs.none, (L.length : Nat), 0⟩) (addK L1) ((addK L1 : Nat) + 1)) (addO L1 o1)) := HST
    clear hg2 k0 hb2 hf2 k1 k4 k5 k6 k7 HAD HST
    generalize addL L1 ⟨2, Cs.none, (L.length : Nat), 0⟩ = L2 at *
    generalize addK L1 = kk at *
    go_wp2_with fail
    go_end0
    refine ⟨_, _, rfl, ?_, go2, HK7.out, HG2.out, HF2.out.trans HG2.out ?_⟩
    · rw [HCG.out.1, HCG.out.2]; exact HST'.out
    · rw [HK0.out]; exact FrB.set _ _
  · have HSP := hid (split_any BB L false _ go HBA.out)
    have hkL : addK L ≤ 4096 := by unfold addK; split <;> omega
    go_enter Tryd.func44, Tryd.ntmps44
    go_wp2_with fail
    refine HSP.out.mono ?_
    unfold BPost
    rintro e w1 ⟨rfl, go1, hb1, hg1, hf1⟩
    have HG1 : Hid (GoTo w go go1) := by
      rcases hg1 with h | ⟨g, h, h2⟩
      · exact .inl h
      · exact .inr ⟨g, h, by simp at h2; omega⟩
    have HF1 : Hid (FrB BB go w w1) := HFA.out.trans (.inl rfl) hf1
    have HBR1 : Hid (Below wb.heap.size wb w1) := HBW.out.trans (HF1.out.below HBW.out.size hwb HOG.out)
    have HRE1 := hid (HBA.out.row_kept hf1 HRE.out (by omega) (by decide))
    obtain ⟨b, o, p', ad', n', cap', rfl, HC, HI0, hbb⟩ := HALL.out.kid HBR1.out 0 (by simp)
    have HC0 : Hid (CellsAt w1 b o [.int .i64 p'.op, .int .u64 p'.set.a, .int .u64 p'.set.b, .int .u64 p'.set.c, .int .u64 p'.set.d, .int .i64 p'.lo, .int .i64 p'.hi, .int .i64 p'.gr, .slice ad' n' cap']) := HC
    have q0 := HRE1.out.c9
    have HBB1 := hid hb1
    have HTC := hid (HT.out w1 _ go1 (splitL L) (addO L false) HI0.out HBR1.out hb1 (fun e => split_full hL e))
    clear hb1 hg1 hf1 HSP HC HI0
    go_wp2_with (first | (with_reducible (refine wpList_load_agg rfl 53 _ rfl b o rfl _ _ HC0.out Tryd.underlying53 rfl (size_re9 _ _ _ _ _ _ _ _ _) ?_)))
    refine HTC.out.mono ?_
    unfold TPost BPost
    rintro e w2 ⟨L2, o2, rfl, hs2, go2, hb2, hg2, hf2⟩
    have hl2 := hb2.len
    have hkl : addK L < L2.length := by
      have h1 := (addL_len L (isplit 0 0) hL).1
      have h2 := splitL_len L
      have h3 := hs2.len
      omega
    have HG2 : Hid (GoTo w go go2) := HG1.out.trans HF1.out.size hg2
    have HF2 : Hid (FrB BB go w w2) := HF1.out.trans HG1.out hf2
    have HRE2 := hid (HBB1.out.row_kept hf2 HRE1.out (by omega) (by decide))
    have HB2 := hid hb2
    have HS2 := hid hs2
    clear q0 hb2 hg2 hf2 hs2 HTC HRE1
    have q0 := HRE2.out.c9
    rcases (show decide (p.hi < 0) = true ∨ decide (p.hi < 0) = false by cases decide (p.hi < 0) <;> simp) with dh | dh
    · have HCG := hid (Re.rep3 p x0 HOP.out (by simpa using dl) (by simpa using dh))
      have HST := hid (rep_star (Re.gen_len x0) HS2.out hL hl2)
      have HAD := hid (addLit_any BB 3 (addK L : Nat) 0 L2 o2 w2 go2 HB2.out)
      clear HS2
      go_wp2_with fail
      refine HAD.out.mono ?_
      unfold BPost
      rintro e w3 ⟨rfl, go3, hb3, hg3, hf3⟩
      have HG3 : Hid (GoTo w go go3) := HG2.out.trans HF2.out.size hg3
      have HF3 : Hid (FrB BB go w w3) := HF2.out.trans HG2.out hf3
      have HST' : Hid (StR (x0.csize + 2) (fun n => isplit (n + 1 : Nat) (n + 2 + x0.csize : Nat) :: (x0.gen (n + 1) ++ [ijump n])) L false (setY (addL L2 ⟨3, Cs.none, (addK L : Nat), 0⟩) (addK L) ((addL L2 ⟨3, Cs.none, (addK L : Nat), 0⟩).length : Nat)) (addO L2 o2)) := HST
      have hkl3 : addK L < (addL L2 ⟨3, Cs.none, (addK L : Nat), 0⟩).length := by
        have : L2.length ≤ (addL L2 ⟨3, Cs.none, (addK L : Nat), 0⟩).length := by unfold addL; split <;> simp
        omega
      have HB3 := hid hb3
      clear hb3 hg3 hf3 HAD HST HG2 HF2 HB2
      clear hl2
      have hl3 := HB3.out.len
      have HC : Hid (∀ x, Below w3.heap.size w3.drew x → ∃ (g c : Nat) (f : Inst), go3 = some g ∧ Row x BB [.slice (some ⟨g, 0, none⟩) (addL L2 ⟨3, Cs.none, (addK L : Nat), 0⟩).length c, .bool (addO L2 o2)] 69 ∧ BB + 1 ≤ g ∧ g < x.heap.size ∧ CellsAt x g (addK L * 7) f.cells ∧ (∀ i, x.frozen? ⟨g, i, none⟩ = false) ∧ BldAt (x.setCell ⟨g, addK L * 7 + 6, none⟩ (.int .i64 ((addL L2 ⟨3, Cs.none, (addK L : Nat), 0⟩).length : Nat))) BB go3 (setY (addL L2 ⟨3, Cs.none, (addK L : Nat), 0⟩) (addK L) ((addL L2 ⟨3, Cs.none, (addK L : Nat), 0⟩).length : Nat)) (addO L2 o2)) := fun x hx => by
        obtain ⟨g, c, f, k0, k1, k2, k3, k4, k5, k6, k7⟩ := (HB3.out.below ((Below.refl _ w3).drew.trans hx)).opens (addK L) hkl3
        exact ⟨g, c, f, k0, k1, k2, k3, k4, k5, k7 _⟩
      obtain ⟨g, c0, f0, k0, k1, -, -, -, -, -⟩ := HC.out w3.drew (Below.refl _ _)
      have HC2 : Hid (∀ x, Below w3.heap.size w3.drew x → x.cell? ⟨BB, 0, none⟩ = some (.slice (some ⟨g, 0, none⟩) (addL L2 ⟨3, Cs.none, (addK L : Nat), 0⟩).length c0)) := fun x hx => by
        have hz := HB3.out.lt
        exact (k1.below hx hz).cell 0
      have HK0 := hid k0
      clear k1 k0
      generalize addL L2 ⟨3, Cs.none, (addK L : Nat), 0⟩ = L4 at *
      generalize addK L = kk at *
      go_wp2_with fail
      refine wp_region_inv 12 (Below w3.heap.size) (by kernel_rfl) (by kernel_rfl) (Below.refl _) (fun _ _ _ => Below.trans) ?_
      simp only [fill, dstOf, Act.put, List.take_succ_cons, List.take_zero, List.getElem?_toArray, List.getElem?_cons_zero, List.getElem?_cons_succ, Option.bind_some, List.setIfInBounds_toArray, List.set_cons_zero, List.set_cons_succ]
      refine Plan.det 1 rfl (Below.refl _) ?_
      apply Exists.intro
      refine ⟨fun vs x hR hF K hK => ?_, ?_⟩
      · clear hF
        go_simp
        exact hK _ _ (Below.refl _ _) rfl
      refine Plan.det 2 rfl (Below.refl _) ?_
      apply Exists.intro
      refine ⟨fun vs x hR hF K hK => ?_, ?_⟩
      · have f0 := hF 0 _ _ rfl rfl; clear hF
        go_simp
        exact hK _ _ (Below.refl _ _) rfl
      refine Plan.det 3 rfl (Below.refl _) ?_
      apply Exists.intro
      refine ⟨fun vs x hR hF K hK => ?_, ?_⟩
      · have f1 := hF 0 _ _ rfl rfl; clear hF
        go_simp
        exact hK _ _ (Below.refl _ _) rfl
      refine Plan.det 4 rfl (Below.refl _) ?_
      apply Exists.intro
      refine ⟨fun vs x hR hF K hK => ?_, ?_⟩
      · have f2 := hF 0 _ _ rfl rfl; have hc := HC2.out x hR; clear hF
        go_simp
        exact hK _ _ (Below.refl _ _) rfl
      refine Plan.det 5 rfl (Below.refl _) ?_
      apply Exists.intro
      refine ⟨fun vs x hR hF K hK => ?_, ?_⟩
      · clear hF
        go_simp
        exact hK _ _ (Below.refl _ _) rfl
      refine Plan.det 6 rfl (Below.refl _) ?_
      apply Exists.intro
      refine ⟨fun vs x hR hF K hK => ?_, ?_⟩
      · clear hF
        go_simp
        exact hK _ _ (Below.refl _ _) rfl
      refine Plan.det 7 rfl (Below.refl _) ?_
      apply Exists.intro
      refine ⟨fun vs x hR hF K hK => ?_, ?_⟩
      · have f5 := hF 0 _ _ rfl rfl; clear hF
        go_simp
        exact hK _ _ (Below.refl _ _) rfl
      refine Plan.det 8 rfl (Below.refl _) ?_
      apply Exists.intro
      refine ⟨fun vs x hR hF K hK => ?_, ?_⟩
      · have f6 := hF 0 _ _ rfl rfl; clear hF
        go_simp
        exact hK _ _ (Below.refl _ _) rfl
      refine Plan.det 9 rfl (Below.refl _) ?_
      apply Exists.intro
      refine ⟨fun vs x hR hF K hK => ?_, ?_⟩
      · have f7 := hF 0 _ _ rfl rfl; have hc := HC2.out x hR; clear hF
        go_simp
        exact hK _ _ (Below.refl _ _) rfl
      refine Plan.det 10 rfl (Below.refl _) ?_
      apply Exists.intro
      refine ⟨fun vs x hR hF K hK => ?_, ?_⟩
      · have f8 := hF 0 _ _ rfl rfl; clear hF
        go_simp
        exact hK _ _ (Below.refl _ _) rfl
      refine Plan.det 11 rfl (Below.refl _) ?_
      apply Exists.intro
      refine ⟨fun vs x hR hF K hK => ?_, ?_⟩
      · have f0 := hF 9 _ _ rfl rfl; have f1 := hF 8 _ _ rfl rfl; have f2 := hF 7 _ _ rfl rfl; have f3 := hF 6 _ _ rfl rfl; have f4 := hF 5 _ _ rfl rfl; have f5 := hF 4 _ _ rfl rfl; have f6 := hF 3 _ _ rfl rfl; have f7 := hF 2 _ _ rfl rfl; have f8 := hF 1 _ _ rfl rfl; have f9 := hF 0 _ _ rfl rfl; clear hF
        go_simp
        exact hK _ _ (Below.refl _ _) rfl
      refine Plan.det 12 rfl (Below.refl _) ?_
      apply Exists.intro
      refine ⟨fun vs x hR hF K hK => ?_, ?_⟩
      · have f0 := hF 10 _ _ rfl rfl; have f1 := hF 9 _ _ rfl rfl; have f2 := hF 8 _ _ rfl rfl; have f3 := hF 7 _ _ rfl rfl; have f4 := hF 6 _ _ rfl rfl; have f5 := hF 5 _ _ rfl rfl; have f6 := hF 4 _ _ rfl rfl; have f7 := hF 3 _ _ rfl rfl; have f8 := hF 2 _ _ rfl rfl; have f9 := hF 1 _ _ rfl rfl; have f10 := hF 0 _ _ rfl rfl; clear hF
        go_simp
        exact hK _ _ (Below.refl _ _) rfl
      refine Plan.nil (fun vs x hR hF => ?_)
      have f0 := hF 11 _ _ rfl; have f1 := hF 10 _ _ rfl; have f2 := hF 9 _ _ rfl; have f3 := hF 8 _ _ rfl; have f4 := hF 7 _ _ rfl; have f5 := hF 6 _ _ rfl; have f6 := hF 5 _ _ rfl; have f7 := hF 4 _ _ rfl; have f8 := hF 3 _ _ rfl; have f9 := hF 2 _ _ rfl; have f10 := hF 1 _ _ rfl; have f11 := hF 0 _ _ rfl
      clear hF
      simp only [f0, f1, f2, f3, f4, f5, f6, f7, f8, f9, f10, f11]
      clear f0 f1 f2 f3 f4 f5 f6 f7 f8 f9 f10 f11
      simp only [List.drop_succ_cons, List.drop_zero]
      obtain ⟨g', c', f', e1, q1, q2, q3, q4, q5, q6⟩ := HC.out x hR
      have e2 : g' = g := by have h := e1.symm.trans HK0.out; exact Option.some.inj h
      subst e2
      have q7 := q4.c7i
      have q8 := q5 (kk * 7 + 6)
      have HQ6 := hid q6
      have HRX := hid hR
      clear q0 q1 q4 q5 q6 hR HC2 HC
      go_wp2_with fail
      go_end0
      have hfx : FrB BB go3 w3 (x.setCell ⟨g', kk * 7 + 6, none⟩ (.int .i64 (L4.length : Nat))) := by
        rw [HK0.out]
        exact (FrB.of_below ((Below.refl _ w3).drew.trans HRX.out)).trans (.inl rfl) (FrB.set _ _)
      refine ⟨_, _, rfl, ?_, go3, HQ6.out, HG3.out, HF3.out.trans HG3.out hfx⟩
      rw [HCG.out.1, HCG.out.2]
      exact HST'.out
    · have HCG := hid (Re.rep2 p x0 HOP.out (by simpa using dl) (by simpa using dh))
      have HST := hid (rep_opt (Re.gen_len x0) HS2.out hL)
      clear HS2
      have HC : Hid (∀ x, Below w2.heap.size w2.drew x → ∃ (g c : Nat) (f : Inst), go2 = some g ∧ Row x BB [.slice (some ⟨g, 0, none⟩) (L2).length c, .bool (o2)] 69 ∧ BB + 1 ≤ g ∧ g < x.heap.size ∧ CellsAt x g (addK L * 7) f.cells ∧ (∀ i, x.frozen? ⟨g, i, none⟩ = false) ∧ BldAt (x.setCell ⟨g, addK L * 7 + 6, none⟩ (.int .i64 ((L2).length : Nat))) BB go2 (setY (L2) (addK L) ((L2).length : Nat)) (o2)) := fun x hx => by
        obtain ⟨g, c, f, k0, k1, k2, k3, k4, k5, k6, k7⟩ := (HB2.out.below ((Below.refl _ w2).drew.trans hx)).opens (addK L) hkl
        exact ⟨g, c, f, k0, k1, k2, k3, k4, k5, k7 _⟩
      obtain ⟨g, c0, f0, k0, k1, -, -, -, -, -⟩ := HC.out w2.drew (Below.refl _ _)
      have HC2 : Hid (∀ x, Below w2.heap.size w2.drew x → x.cell? ⟨BB, 0, none⟩ = some (.slice (some ⟨g, 0, none⟩) (L2).length c0)) := fun x hx => by
        have hz := HB2.out.lt
        exact (k1.below hx hz).cell 0
      have HK0 := hid k0
      clear k1 k0
      generalize addK L = kk at *
      go_wp2_with fail
      refine wp_region_inv 12 (Below w2.heap.size) (by kernel_rfl) (by kernel_rfl) (Below.refl _) (fun _ _ _ => Below.trans) ?_
      simp only [fill, dstOf, Act.put, List.take_succ_cons, List.take_zero, List.getElem?_toArray, List.getElem?_cons_zero, List.getElem?_cons_succ, Option.bind_some, List.setIfInBounds_toArray, List.set_cons_zero, List.set_cons_succ]
      refine Plan.det 1 rfl (Below.refl _) ?_
      apply Exists.intro
      refine ⟨fun vs x hR hF K hK => ?_, ?_⟩
      · clear hF
        go_simp
        exact hK _ _ (Below.refl _ _) rfl
      refine Plan.det 2 rfl (Below.refl _) ?_
      apply Exists.intro
      refine ⟨fun vs x hR hF K hK => ?_, ?_⟩
      · have f0 := hF 0 _ _ rfl rfl; clear hF
        go_simp
        exact hK _ _ (Below.refl _ _) rfl
      refine Plan.det 3 rfl (Below.refl _) ?_
      apply Exists.intro
      refine ⟨fun vs x hR hF K hK => ?_, ?_⟩
      · have f1 := hF 0 _ _ rfl rfl; clear hF
        go_simp
        exact hK _ _ (Below.refl _ _) rfl
      refine Plan.det 4 rfl (Below.refl _) ?_
      apply Exists.intro
      refine ⟨fun vs x hR hF K hK => ?_, ?_⟩
      · have f2 := hF 0 _ _ rfl rfl; have hc := HC2.out x hR; clear hF
        go_simp
        exact hK _ _ (Below.refl _ _) rfl
      refine Plan.det 5 rfl (Below.refl _) ?_
      apply Exists.intro
      refine ⟨fun vs x hR hF K hK => ?_, ?_⟩
      · clear hF
        go_simp
        exact hK _ _ (Below.refl _ _) rfl
      refine Plan.det 6 rfl (Below.refl _) ?_
      apply Exists.intro
      refine ⟨fun vs x hR hF K hK => ?_, ?_⟩
      · clear hF
        go_simp
        exact hK _ _ (Below.refl _ _) rfl
      refine Plan.det 7 rfl (Below.refl _) ?_
      apply Exists.intro
      refine ⟨fun vs x hR hF K hK => ?_, ?_⟩
      · have f5 := hF 0 _ _ rfl rfl; clear hF
        go_simp
        exact hK _ _ (Below.refl _ _) rfl
      refine Plan.det 8 rfl (Below.refl _) ?_
      apply Exists.intro
      refine ⟨fun vs x hR hF K hK => ?_, ?_⟩
      · have f6 := hF 0 _ _ rfl rfl; clear hF
        go_simp
        exact hK _ _ (Below.refl _ _) rfl
      refine Plan.det 9 rfl (Below.refl _) ?_
      apply Exists.intro
      refine ⟨fun vs x hR hF K hK => ?_, ?_⟩
      · have f7 := hF 0 _ _ rfl rfl; have hc := HC2.out x hR; clear hF
        go_simp
        exact hK _ _ (Below.refl _ _) rfl
      refine Plan.det 10 rfl (Below.refl _) ?_
      apply Exists.intro
      refine ⟨fun vs x hR hF K hK => ?_, ?_⟩
      · have f8 := hF 0 _ _ rfl rfl; clear hF
        go_simp
        exact hK _ _ (Below.refl _ _) rfl
      refine Plan.det 11 rfl (Below.refl _) ?_
      apply Exists.intro
      refine ⟨fun vs x hR hF K hK => ?_, ?_⟩
      · have f0 := hF 9 _ _ rfl rfl; have f1 := hF 8 _ _ rfl rfl; have f2 := hF 7 _ _ rfl rfl; have f3 := hF 6 _ _ rfl rfl; have f4 := hF 5 _ _ rfl rfl; have f5 := hF 4 _ _ rfl rfl; have f6 := hF 3 _ _ rfl rfl; have f7 := hF 2 _ _ rfl rfl; have f8 := hF 1 _ _ rfl rfl; have f9 := hF 0 _ _ rfl rfl; clear hF
        go_simp
        exact hK _ _ (Below.refl _ _) rfl
      refine Plan.det 12 rfl (Below.refl _) ?_
      apply Exists.intro
      refine ⟨fun vs x hR hF K hK => ?_, ?_⟩
      · have f0 := hF 10 _ _ rfl rfl; have f1 := hF 9 _ _ rfl rfl; have f2 := hF 8 _ _ rfl rfl; have f3 := hF 7 _ _ rfl rfl; have f4 := hF 6 _ _ rfl rfl; have f5 := hF 5 _ _ rfl rfl; have f6 := hF 4 _ _ rfl rfl; have f7 := hF 3 _ _ rfl rfl; have f8 := hF 2 _ _ rfl rfl; have f9 := hF 1 _ _ rfl rfl; have f10 := hF 0 _ _ rfl rfl; clear hF
        go_simp
        exact hK _ _ (Below.refl _ _) rfl
      refine Plan.nil (fun vs x hR hF => ?_)
      have f0 := hF 11 _ _ rfl; have f1 := hF 10 _ _ rfl; have f2 := hF 9 _ _ rfl; have f3 := hF 8 _ _ rfl; have f4 := hF 7 _ _ rfl; have f5 := hF 6 _ _ rfl; have f6 := hF 5 _ _ rfl; have f7 := hF 4 _ _ rfl; have f8 := hF 3 _ _ rfl; have f9 := hF 2 _ _ rfl; have f10 := hF 1 _ _ rfl; have f11 := hF 0 _ _ rfl
      clear hF
      simp only [f0, f1, f2, f3, f4, f5, f6, f7, f8, f9, f10, f11]
      clear f0 f1 f2 f3 f4 f5 f6 f7 f8 f9 f10 f11
      simp only [List.drop_succ_cons, List.drop_zero]
      obtain ⟨g', c', f', e1, q1, q2, q3, q4, q5, q6⟩ := HC.out x hR
      have e2 : g' = g := by have h := e1.symm.trans HK0.out; exact Option.some.inj h
      subst e2
      have q7 := q4.c7i
      have q8 := q5 (kk * 7 + 6)
      have HQ6 := hid q6
      have HRX := hid hR
      clear q0 q1 q4 q5 q6 hR HC2 HC
      go_wp2_with fail
      go_end0
      have hfx : FrB BB go2 w2 (x.setCell ⟨g', kk * 7 + 6, none⟩ (.int .i64 (L2.length : Nat))) := by
        rw [HK0.out]
        exact (FrB.of_below ((Below.refl _ w2).drew.trans HRX.out)).trans (.inl rfl) (FrB.set _ _)
      refine ⟨_, _, rfl, ?_, go2, HQ6.out, HG2.out, HF2.out.trans HG2.out hfx⟩
      rw [HCG.out.1, HCG.out.2]
      exact HST.out
end Go.Proofs.YtjjhdddlbgdkeaaDoor
