/- The program's expand: a tree without counted repetitions. -/
import Derived.Test.YthnpbopnpdlmnaaDoorA14
namespace Go.Proofs.YthnpbopnpdlmnaaDoor
open Go.RowKit
attribute [local go_sem] gives givesUpon


def EAt (w : World) (p : Pay) (sl : Value) (v : Value) (L : List (Re × List Value)) (wr : World) : Prop :=
  BAt w p sl (w.heap.size + 3) v L wr ∧ Row wr (w.heap.size + 2) (p.cells v) 28
theorem EAt.later {w : World} {p : Pay} {sl : Value} {v : Value} {L : List (Re × List Value)} {wr x : World} (h : EAt w p sl v L wr) (hb : Below wr.heap.size wr x) : EAt w p sl v L x := ⟨h.1.later hb, h.2.below hb h.2.lt⟩
theorem Re.one_kid {p : Pay} {xs : List Re} (h : (Re.mk p xs).typed = true) (hop : p.op = 5) : ∃ x, xs = [x] := by
  have hl : xs.length = 1 := by
    rw [Re.typed] at h
    simp only [Bool.and_eq_true] at h
    have h1 := h.1
    unfold Pay.shaped at h1
    simp [hop] at h1
    omega
  match xs, hl with
  | [x], _ => exact ⟨x, rfl⟩

set_option maxRecDepth 100000 in
set_option maxHeartbeats 4000000 in
theorem expand_any (wb : World) (t : Re) : ∀ (w : World) (cs : List Value), t.In wb cs → Below wb.heap.size wb w → t.okr = true → t.typed = true → t.size ≤ 1048576 →
    Calls Tryd.prog 32 #[.agg cs.toArray] w fun e w' => ∃ cs', e = .returned (.agg cs'.toArray) ∧ t.expand.InS (w.heap.size ≤ ·) w' cs' ∧ Below w.heap.size w w' := by
  induction t using Re.ind with
  | h p xs ih =>
    intro w cs hIn hbw hok hty hsz
    rw [Re.In] at hIn
    obtain ⟨ad, cap, rfl, hwf, hlc, hcm, hnil, hall⟩ := hIn
    rw [Re.size_mk] at hsz
    have hlen := Re.sizes_len xs
    have HIH := hid ih
    have HAL := hid hall
    have HBW := hid hbw
    have HWF := hid hwf
    have HTY := hid hty
    rw [Re.okr, Bool.and_eq_true, decide_eq_true_eq] at hok
    have HOK := hid hok
    clear ih hall hwf hbw hok hty
    simp only [Pay.cells]
    by_cases o5 : p.op = 5 ∧ p.hi = 0
    · have e1 := hid (show (Re.mk p xs).expand = .mk (Pay.of 1) [] by rw [Re.expand, if_pos o5])
      have d5 : (p.op == 5) = true := by simpa using o5.1
      have d6 : (p.hi == 0) = true := by simpa using o5.2
      clear o5
      go_enter Tryd.func32, Tryd.ntmps32
      go_wp2_with fail
      have hr : Row ((w.alloc (.cells #[.int .i64 p.op, .int .u64 p.set.a, .int .u64 p.set.b, .int .u64 p.set.c, .int .u64 p.set.d, .int .i64 p.lo, .int .i64 p.hi, .int .i64 p.gr, .slice ad xs.length cap] 28)).alloc (.cells #[.int .i64 1, .int .u64 0, .int .u64 0, .int .u64 0, .int .u64 0, .int .i64 0, .int .i64 0, .int .i64 0, .slice none 0 0] 28)) (w.heap.size + 1) [.int .i64 1, .int .u64 0, .int .u64 0, .int .u64 0, .int .u64 0, .int .i64 0, .int .i64 0, .int .i64 0, .slice none 0 0] 28 := Row.new (cs := [.int .i64 1, .int .u64 0, .int .u64 0, .int .u64 0, .int .u64 0, .int .i64 0, .int .i64 0, .int .i64 0, .slice none 0 0]) (by simp)
      refine ret_row 2 28 rfl (w.heap.size + 1) rfl [.int .i64 1, .int .u64 0, .int .u64 0, .int .u64 0, .int .u64 0, .int .i64 0, .int .i64 0, .int .i64 0, .slice none 0 0] (CellsAt.of_row (T := 28) hr) _ Tryd.underlying28 rfl (size_relen rfl) rfl ?_
      refine ⟨_, rfl, ?_, ((Below.refl _ w).alloc (Nat.le_refl _) _).alloc (by simp) _⟩
      rw [e1.out]
      exact (OwnRes.nil _ w.heap.size _).node (fun k hk => hk) (Pay.of 1) (Pay.of_wf ⟨by decide, by decide⟩)
    by_cases o6 : p.op = 5
    · have e1 := hid (fun (x0 : Re) (h : xs = [x0]) => (show (Re.mk p xs).expand = x0.expand.counted p.lo p.hi by rw [Re.expand, if_neg o5, if_pos o6, h, Re.expands_map]; rfl))
      have d5 : (p.op == 5) = true := by simpa using o6
      have d6 : (p.hi == 0) = false := by simp; exact fun h => o5 ⟨o6, h⟩
      have HX0 := hid (Re.one_kid HTY.out o6)
      have HBD := hid (Pay.badRep_false (HOK.out.1 o6))
      clear o5 o6
      go_enter Tryd.func32, Tryd.ntmps32
      go_wp2_with fail
      go_loopw [20] (fun i wr => ∃ (k : Nat) (a : Option Addr) (c : Nat) (L : List (Re × List Value)), k ≤ xs.length ∧ i = .int .i64 k ∧ Hid (L.length = k ∧ L.map Prod.fst = (xs.take k).map Re.expand) ∧ Hid (EAt w p (.slice ad xs.length cap) (.slice a k c) L wr)) (fun i _ => xs.length - (intOf i).toNat)
      case atStart =>
        refine ⟨0, none, 0, [], by omega, rfl, ⟨rfl, rfl⟩, ⟨OwnRes.nil _ _ _, ((Row.new (cs := [.int .i64 p.op, .int .u64 p.set.a, .int .u64 p.set.b, .int .u64 p.set.c, .int .u64 p.set.d, .int .i64 p.lo, .int .i64 p.hi, .int .i64 p.gr, .slice ad xs.length cap]) rfl).alloc _).alloc _, (Row.new (cs := [.int .i64 0, .int .u64 0, .int .u64 0, .int .u64 0, .int .u64 0, .int .i64 0, .int .i64 0, .int .i64 0, .slice none 0 0]) (by simp)).alloc _, (((Below.refl _ w).alloc (Nat.le_refl _) _).alloc (by simp) _).alloc (by simp; omega) _⟩, Row.new (cs := [.int .i64 p.op, .int .u64 p.set.a, .int .u64 p.set.b, .int .u64 p.set.c, .int .u64 p.set.d, .int .i64 p.lo, .int .i64 p.hi, .int .i64 p.gr, .slice none 0 0]) (by simp)⟩
      case round =>
        obtain ⟨k, a, c, L, hk, rfl, HL, HX⟩ := hrel
        have q1 := HX.out.1.2.1.c9
        have hB := HX.out.1.2.1.lt
        have q3 := HX.out.2.c9
        have hB3 := HX.out.2.lt
        have HBL : Hid (Below wb.heap.size wb wr) := HBW.out.trans (HX.out.1.2.2.2.mono HBW.out.size)
        by_cases hlt : k < xs.length
        · obtain ⟨b, o, p', ad1, n1, cap1, rfl, HC0, HI0, hbb⟩ := HAL.out.kid HBL.out k hlt
          go_wp2_with (first | (with_reducible (refine wpList_load_agg rfl 28 _ rfl b (o + (k * 9)) rfl _ _ HC0.out Tryd.underlying28 rfl (size_re9 _ _ _ _ _ _ _ _ _) ?_)))
          have hsg := Re.size_get (xs := xs) (i := k) (a := xs[k]) (by simp [hlt])
          have hX1 := HX.out.later ((Below.refl _ wr).alloc (Nat.le_refl _) (.cells #[.int .i64 p'.op, .int .u64 p'.set.a, .int .u64 p'.set.b, .int .u64 p'.set.c, .int .u64 p'.set.d, .int .i64 p'.lo, .int .i64 p'.hi, .int .i64 p'.gr, .slice ad1 n1 cap1] 28))
          have hA1 := Row.new (w := wr) (B := wr.heap.size) (T := 28) (cs := [.int .i64 p'.op, .int .u64 p'.set.a, .int .u64 p'.set.b, .int .u64 p'.set.c, .int .u64 p'.set.d, .int .i64 p'.lo, .int .i64 p'.hi, .int .i64 p'.gr, .slice ad1 n1 cap1]) rfl
          have HB1 := hid (show Below wb.heap.size wb (wr.alloc (.cells #[.int .i64 p'.op, .int .u64 p'.set.a, .int .u64 p'.set.b, .int .u64 p'.set.c, .int .u64 p'.set.d, .int .i64 p'.lo, .int .i64 p'.hi, .int .i64 p'.gr, .slice ad1 n1 cap1] 28)) from HBL.out.alloc (by have := HBL.out.size; exact this) _)
          have hz1 : (wr.alloc (.cells #[.int .i64 p'.op, .int .u64 p'.set.a, .int .u64 p'.set.b, .int .u64 p'.set.c, .int .u64 p'.set.d, .int .i64 p'.lo, .int .i64 p'.hi, .int .i64 p'.gr, .slice ad1 n1 cap1] 28)).heap.size = wr.heap.size + 1 := by simp
          generalize (wr.alloc (.cells #[.int .i64 p'.op, .int .u64 p'.set.a, .int .u64 p'.set.b, .int .u64 p'.set.c, .int .u64 p'.set.d, .int .i64 p'.lo, .int .i64 p'.hi, .int .i64 p'.gr, .slice ad1 n1 cap1] 28)) = y at hX1 hA1 HB1 hz1 ⊢
          have HC := hid (fun (x : World) (hx : Grow y.drew x) => And.intro ((hX1.2.drew.below hx hX1.2.drew.lt).c9) ((hA1.drew.below hx hA1.drew.lt).c9))
          have HS := hid (fun (x : World) (hx : Grow y.drew x) => (show wr.heap.size + 1 ≤ x.heap.size by have := Grow.size hx; simp at this; omega))
          have HBX := hid (fun (x : World) (hx : Grow y.drew x) => (HB1.out.drew.trans (hx.mono (by have := HB1.out.size; exact this)) : Below wb.heap.size wb x))
          have HX1 := hid hX1
          clear hX1 hA1 hz1 q1 q3 HB1
          refine wp_region_inv 5 (Grow) (by kernel_rfl) (by kernel_rfl) (Grow.refl) (fun _ _ _ => Grow.trans) ?_
          simp only [fill, dstOf, Act.put, List.take_succ_cons, List.take_zero, List.getElem?_toArray, List.getElem?_cons_zero, List.getElem?_cons_succ, Option.bind_some, List.setIfInBounds_toArray, List.set_cons_zero, List.set_cons_succ]
          refine Plan.det 1 rfl (Grow.refl) ?_
          apply Exists.intro
          refine ⟨fun vs x hR hF K hK => ?_, ?_⟩
          · clear hF
            go_simp
            exact hK _ _ (Grow.refl _) rfl
          refine Plan.det 2 rfl (Grow.refl) ?_
          apply Exists.intro
          refine ⟨fun vs x hR hF K hK => ?_, ?_⟩
          · have f0 := hF 0 _ _ rfl rfl; have hc := HC.out x hR; clear hF
            go_simp
            exact hK _ _ (Grow.refl _) rfl
          refine Plan.det 3 rfl (Grow.refl) ?_
          apply Exists.intro
          refine ⟨fun vs x hR hF K hK => ?_, ?_⟩
          · have hc := HC.out x hR; clear hF
            go_simp
            exact hK _ _ (Grow.refl _) rfl
          refine Plan.rel 4 rfl (Grow.refl) (fun v y => ∃ cs' : List Value, v = .agg cs'.toArray ∧ xs[k].expand.InS (wr.heap.size + 1 ≤ ·) y cs') (fun v a b hR ⟨cs', h1, h2⟩ => ⟨cs', h1, h2.below hR⟩) (fun vs x hR hF K hK => ?_) ?_
          · have f2 := hF 0 _ _ rfl rfl
            go_simp
            refine (HIH.out xs[k] (by simp) _ _ HI0.out (HBX.out x hR) (Re.okrs_get xs HOK.out.2 k hlt) (Re.typed_kid HTY.out k hlt) (by omega)).mono ?_
            rintro e x1 ⟨cs', rfl, hin, hbe⟩
            exact ⟨_, rfl, hK _ _ hbe ⟨cs', rfl, hin.mono (fun i hi => Nat.le_trans (HS.out x hR) hi)⟩⟩
          refine Plan.rel 5 rfl (Grow.refl) (fun v y => ∃ (b : Nat) (cs' : List Value), v = .slice (some ⟨b, 0, none⟩) 1 1 ∧ Row y b cs' 28 ∧ xs[k].expand.InS (wr.heap.size + 1 ≤ ·) y cs') (fun v a b hR ⟨B, cs', h1, h2, h3⟩ => ⟨B, cs', h1, h2.below hR h2.lt, h3.below hR⟩) (fun vs x hR hF K hK => ?_) ?_
          · have f3 := hF 0 _ _ rfl rfl
            obtain ⟨cs', e5, h5⟩ := f3
            obtain ⟨p', ad', m', cap', rfl⟩ := Re.cells_shape h5.self
            go_simp
            exact hK _ _ (Grow.alloc _ _) ⟨_, _, rfl, Row.at _ _ _, h5.below (Grow.alloc _ _)⟩
          refine Plan.nil (fun vs x hR hF => ?_)
          have f0 := hF 4 _ _ rfl; have f1 := hF 3 _ _ rfl; have f2 := hF 2 _ _ rfl; have f3 := hF 1 _ _ rfl; have f4 := hF 0 _ _ rfl
          clear hF
          simp only [f0, f1, f2]
          clear f0 f1 f2
          simp only [List.drop_succ_cons, List.drop_zero]
          obtain ⟨cs3, e3, -⟩ := f3
          obtain ⟨b4, cs4, e4, hr4, hin4⟩ := f4
          obtain ⟨q, ad', m', cap'', rfl⟩ := Re.cells_shape hin4.self
          simp only [e3, e4]
          have HX2 := hid (HX1.out.later ((Below.refl _ y).drew.trans hR))
          have hIN : xs[k].expand.InS (fun i => w.heap.size + 3 ≤ i ∧ (Value.slice a k c).ownBlock ≠ some i) x [.int .i64 q.op, .int .u64 q.set.a, .int .u64 q.set.b, .int .u64 q.set.c, .int .u64 q.set.d, .int .i64 q.lo, .int .i64 q.hi, .int .i64 q.gr, .slice ad' m' cap''] := hin4.mono (fun i hi => ⟨by omega, fun e => by have := (HX.out.1.1.lt i e).2; omega⟩)
          have HIN := hid hIN
          have HR4 := hid hr4
          have hx3 : w.heap.size + 3 ≤ x.heap.size := by have := HS.out x hR; omega
          obtain ⟨i0, hi, hz0, hz1, hz2⟩ := info_parts info_re9'
          clear hR HC hIN hin4 hr4 e3 e4 hsg
          go_wp2_with (at_builtin; refine wpList_append_row rfl _ _ 26 rfl (w.heap.size + 3) 28 i0 (.agg #[.int .i64 0, .int .u64 0, .int .u64 0, .int .u64 0, .int .u64 0, .int .i64 0, .int .i64 0, .int .i64 0, .slice none 0 0]) 9 88 Tryd.underlying26 hi hz0 hz1 hz2 rfl (by decide) _ k (L.flatMap Prod.snd) rfl (by have := HX2.out.1.1.1; rw [HL.out.1] at this; exact this) ⟨b4, 0, none⟩ 1 1 [.int .i64 q.op, .int .u64 q.set.a, .int .u64 q.set.b, .int .u64 q.set.c, .int .u64 q.set.d, .int .i64 q.lo, .int .i64 q.hi, .int .i64 q.gr, .slice ad' m' cap''] rfl rfl ?c1 ?c2 ?c3 ?c4 ?c5 (by decide) ?_)
          case c1 =>
            intro j u hj
            rw [Addr.add_lit, Nat.zero_add, HR4.out.cell, hj]
          case c2 => intro u hu; simp at hu; rcases hu with rfl | rfl | rfl | rfl | rfl | rfl | rfl | rfl | rfl <;> rfl
          case c3 => unfold maxLen; omega
          case c4 => omega
          case c5 => omega
          intro a2 c2 w3 hown hgrow hnw
          have hx4 : w.heap.size + 3 ≤ w3.heap.size := Nat.le_trans hx3 hgrow.size
          have hrow : Row w3 (w.heap.size + 2) (p.cells (.slice a k c)) 28 := (grown_block hgrow (fun g hg => (HX2.out.1.1.lt g hg).1) (w.heap.size + 2) (by omega) (by omega)).trans HX2.out.2
          have hX3 := HX2.out.1.push (by omega) (by rw [HL.out.1]) hown hgrow hnw HIN.out
          have q5 := hrow.c9
          have HX3 := hid hX3
          have HROW := hid hrow
          clear hown hgrow hnw hrow hX3 hi hz0 hz1 hz2
          go_wp2_with fail
          go_roundw
          case rel =>
            refine ⟨k + 1, a2, c2, L ++ [(xs[k].expand, ([.int .i64 q.op, .int .u64 q.set.a, .int .u64 q.set.b, .int .u64 q.set.c, .int .u64 q.set.d, .int .i64 q.lo, .int .i64 q.hi, .int .i64 q.gr, .slice ad' m' cap''] : List Value))], by omega, by go_num, ⟨by simp [HL.out.1], by rw [List.map_append, HL.out.2, List.take_add_one, List.getElem?_eq_getElem hlt, List.map_append]; rfl⟩, ?_, HROW.out.set 8 _⟩
            exact ⟨HX3.out.1.but (M := w.heap.size + 2) ((But.refl _ _).setCell (.inl (by simp)) _) (fun g hg => by have := (HX3.out.1.lt g hg).1; omega) (by omega), HX3.out.2.1.other (by omega) _ _, HX3.out.2.2.1.other (by omega) _ _, HX3.out.2.2.2.setCell (by show w.heap.size ≤ w.heap.size + 2; omega) _⟩
          case measure => simp [intOf]; omega
        · obtain rfl : k = xs.length := by omega
          have q2 := HX.out.1.2.2.1.c9
          have z2 := HX.out.1.2.2.1.lt
          have hLm : L.map Prod.fst = xs.map Re.expand := by rw [HL.out.2, List.take_length]
          obtain ⟨x0, hx0⟩ := HX0.out
          have hl1 : 1 ≤ xs.length := by rw [hx0]; exact Nat.le_refl _
          obtain ⟨e0, L', rfl⟩ : ∃ e0 L', L = e0 :: L' := by
            match L, HL.out.1 with
            | [], h => simp at h; omega
            | e0 :: L', _ => exact ⟨e0, L', rfl⟩
          have he0 : e0.1 = x0.expand := by rw [hx0] at hLm; simp at hLm; exact hLm.1
          obtain ⟨g, c', hsl, hg1, hg2, hc2, hce⟩ := HX.out.1.1.elem 0 e0 rfl
          injection hsl with s1 s2 s3
          subst s1 s3
          rw [Nat.zero_mul] at hce
          have hine := HX.out.1.1.2 e0 (by simp)
          obtain ⟨ye, cse⟩ := e0
          simp only [] at he0 hce hine
          subst he0
          obtain ⟨q, ad', m', cap'', rfl⟩ := Re.cells_shape hine.self
          have hbd := Pay.badRep_false (HOK.out.1 (by simpa using d5))
          have HIE := hid (hine.mono (S' := fun i => w.heap.size + 3 ≤ i) fun i hi => hi.1)
          have HCE : Hid (CellsAt wr g 0 [.int .i64 q.op, .int .u64 q.set.a, .int .u64 q.set.b, .int .u64 q.set.c, .int .u64 q.set.d, .int .i64 q.lo, .int .i64 q.hi, .int .i64 q.gr, .slice ad' m' cap'']) := hce
          have HC := hid (fun (x : World) (hx : Grow wr.drew x) => And.intro ((HX.out.1.2.1.drew.below hx HX.out.1.2.1.drew.lt).c9) (And.intro ((HX.out.2.drew.below hx HX.out.2.drew.lt).c9) (CellsAt.below (w := wr.drew) HCE.out hx)))
          have HHC : Hid (∀ x, Grow wr.drew x → x.cell? ⟨g, 0, none⟩ = some (.int .i64 q.op) ∧ x.cell? ⟨g, 1, none⟩ = some (.int .u64 q.set.a) ∧ x.cell? ⟨g, 2, none⟩ = some (.int .u64 q.set.b) ∧ x.cell? ⟨g, 3, none⟩ = some (.int .u64 q.set.c) ∧ x.cell? ⟨g, 4, none⟩ = some (.int .u64 q.set.d) ∧ x.cell? ⟨g, 5, none⟩ = some (.int .i64 q.lo) ∧ x.cell? ⟨g, 6, none⟩ = some (.int .i64 q.hi) ∧ x.cell? ⟨g, 7, none⟩ = some (.int .i64 q.gr) ∧ x.cell? ⟨g, 8, none⟩ = some (.slice ad' m' cap'')) := fun x hx => by
            have h := (HC.out x hx).2.2
            exact ⟨h 0 _ rfl, h 1 _ rfl, h 2 _ rfl, h 3 _ rfl, h 4 _ rfl, h 5 _ rfl, h 6 _ rfl, h 7 _ rfl, h 8 _ rfl⟩
          have HCC := hid (fun (x : World) (hx : Grow wr.drew x) => And.intro (HC.out x hx).1 (And.intro (HC.out x hx).2.1 (HHC.out x hx)))
          have HIX := hid (fun (x : World) (hx : Grow wr.drew x) => (HIE.out.below ((Below.refl _ wr).drew)).below hx)
          clear hce hine hLm q2 hbd HC HHC s2
          go_wp2_with fail
          refine wp_region_inv 9 (Grow) (by kernel_rfl) (by kernel_rfl) (Grow.refl) (fun _ _ _ => Grow.trans) ?_
          simp only [fill, dstOf, Act.put, List.take_succ_cons, List.take_zero, List.getElem?_toArray, List.getElem?_cons_zero, List.getElem?_cons_succ, Option.bind_some, List.setIfInBounds_toArray, List.set_cons_zero, List.set_cons_succ]
          refine Plan.det 1 rfl (Grow.refl) ?_
          apply Exists.intro
          refine ⟨fun vs x hR hF K hK => ?_, ?_⟩
          · clear hF
            go_simp
            exact hK _ _ (Grow.refl _) rfl
          refine Plan.det 2 rfl (Grow.refl) ?_
          apply Exists.intro
          refine ⟨fun vs x hR hF K hK => ?_, ?_⟩
          · have f0 := hF 0 _ _ rfl rfl; have hc := HCC.out x hR; clear hF
            go_simp
            exact hK _ _ (Grow.refl _) rfl
          refine Plan.det 3 rfl (Grow.refl) ?_
          apply Exists.intro
          refine ⟨fun vs x hR hF K hK => ?_, ?_⟩
          · have f1 := hF 0 _ _ rfl rfl; clear hF
            go_simp
            exact hK _ _ (Grow.refl _) rfl
          refine Plan.det 4 rfl (Grow.refl) ?_
          apply Exists.intro
          refine ⟨fun vs x hR hF K hK => ?_, ?_⟩
          · have f2 := hF 0 _ _ rfl rfl; have hc := HCC.out x hR; clear hF
            go_simp
            exact hK _ _ (Grow.refl _) rfl
          refine Plan.det 5 rfl (Grow.refl) ?_
          apply Exists.intro
          refine ⟨fun vs x hR hF K hK => ?_, ?_⟩
          · clear hF
            go_simp
            exact hK _ _ (Grow.refl _) rfl
          refine Plan.det 6 rfl (Grow.refl) ?_
          apply Exists.intro
          refine ⟨fun vs x hR hF K hK => ?_, ?_⟩
          · have f4 := hF 0 _ _ rfl rfl; have hc := HCC.out x hR; clear hF
            go_simp
            exact hK _ _ (Grow.refl _) rfl
          refine Plan.det 7 rfl (Grow.refl) ?_
          apply Exists.intro
          refine ⟨fun vs x hR hF K hK => ?_, ?_⟩
          · clear hF
            go_simp
            exact hK _ _ (Grow.refl _) rfl
          refine Plan.det 8 rfl (Grow.refl) ?_
          apply Exists.intro
          refine ⟨fun vs x hR hF K hK => ?_, ?_⟩
          · have f6 := hF 0 _ _ rfl rfl; have hc := HCC.out x hR; clear hF
            go_simp
            exact hK _ _ (Grow.refl _) rfl
          refine Plan.rel 9 rfl (Grow.refl) (fun v y => ∃ cs' : List Value, v = .agg cs'.toArray ∧ (x0.expand.counted p.lo p.hi).InS (w.heap.size + 3 ≤ ·) y cs') (fun v a b hR ⟨cs', h1, h2⟩ => ⟨cs', h1, h2.below hR⟩) (fun vs x hR hF K hK => ?_) ?_
          · have f3 := hF 4 _ _ rfl rfl; have f5 := hF 2 _ _ rfl rfl; have f7 := hF 0 _ _ rfl rfl
            go_simp
            refine (counted_any _ x0.expand p.lo p.hi x _ (HIX.out x hR) HBD.out.1 HBD.out.2).mono ?_
            rintro e x1 ⟨cs', rfl, hin, hbe⟩
            exact ⟨_, rfl, hK _ _ hbe ⟨cs', rfl, hin.mono (fun i hi => hi.elim id fun h => by have h2 := Grow.size hR; simp at h2; omega)⟩⟩
          refine Plan.nil (fun vs x hR hF => ?_)
          have f0 := hF 8 _ _ rfl; have f1 := hF 7 _ _ rfl; have f2 := hF 6 _ _ rfl; have f3 := hF 5 _ _ rfl; have f4 := hF 4 _ _ rfl; have f5 := hF 3 _ _ rfl; have f6 := hF 2 _ _ rfl; have f7 := hF 1 _ _ rfl; have f8 := hF 0 _ _ rfl
          clear hF
          simp only [f0, f1, f2, f3, f4, f5, f6, f7]
          clear f0 f1 f2 f3 f4 f5 f6 f7
          simp only [List.drop_succ_cons, List.drop_zero]
          obtain ⟨cs8, e8, hin8⟩ := f8
          obtain ⟨q8, ad8, m8, cap8, rfl⟩ := Re.cells_shape hin8.self
          simp only [e8]
          have hr := HX.out.1.2.2.1.drew.below hR HX.out.1.2.2.1.drew.lt
          have q6 := hr.c9
          have z6 := hr.lt
          have HR := hid hr
          have HB := hid ((HX.out.1.2.2.2.drew.trans (hR.mono HX.out.1.2.2.2.size)))
          have HIN8 := hid hin8
          clear hR HCC hr hin8 e8 q1 q3
          go_wp2_with fail
          have hb := below9 HB.out (by omega : w.heap.size ≤ w.heap.size + 1) (.int .i64 q8.op) (.int .u64 q8.set.a) (.int .u64 q8.set.b) (.int .u64 q8.set.c) (.int .u64 q8.set.d) (.int .i64 q8.lo) (.int .i64 q8.hi) (.int .i64 q8.gr) (.slice ad8 m8 cap8)
          refine ret_row 2 28 rfl (w.heap.size + 1) rfl [.int .i64 q8.op, .int .u64 q8.set.a, .int .u64 q8.set.b, .int .u64 q8.set.c, .int .u64 q8.set.d, .int .i64 q8.lo, .int .i64 q8.hi, .int .i64 q8.gr, .slice ad8 m8 cap8] (CellsAt.of_row (T := 28) (HR.out.set9 _ _ _ _ _ _ _ _ _)) _ Tryd.underlying28 rfl (size_relen rfl) rfl ?_
          refine ⟨_, rfl, ?_, hb⟩
          rw [e1.out x0 hx0]
          refine (HIN8.out.but (Bs := [w.heap.size + 1]) (But.set9 (But.refl _ x) (.inl (by simp)) (.int .i64 q8.op) (.int .u64 q8.set.a) (.int .u64 q8.set.b) (.int .u64 q8.set.c) (.int .u64 q8.set.d) (.int .i64 q8.lo) (.int .i64 q8.hi) (.int .i64 q8.gr) (.slice ad8 m8 cap8)) (fun i hi => by simp; omega)).mono (fun i hi => by omega)
    · have e1 := hid (show (Re.mk p xs).expand = .mk p (xs.map Re.expand) by rw [Re.expand, if_neg o5, if_neg o6, Re.expands_map])
      have d5 : (p.op == 5) = false := by simpa using o6
      clear o5 o6
      go_enter Tryd.func32, Tryd.ntmps32
      go_wp2_with fail
      go_loopw [20] (fun i wr => ∃ (k : Nat) (a : Option Addr) (c : Nat) (L : List (Re × List Value)), k ≤ xs.length ∧ i = .int .i64 k ∧ Hid (L.length = k ∧ L.map Prod.fst = (xs.take k).map Re.expand) ∧ Hid (EAt w p (.slice ad xs.length cap) (.slice a k c) L wr)) (fun i _ => xs.length - (intOf i).toNat)
      case atStart =>
        refine ⟨0, none, 0, [], by omega, rfl, ⟨rfl, rfl⟩, ⟨OwnRes.nil _ _ _, ((Row.new (cs := [.int .i64 p.op, .int .u64 p.set.a, .int .u64 p.set.b, .int .u64 p.set.c, .int .u64 p.set.d, .int .i64 p.lo, .int .i64 p.hi, .int .i64 p.gr, .slice ad xs.length cap]) rfl).alloc _).alloc _, (Row.new (cs := [.int .i64 0, .int .u64 0, .int .u64 0, .int .u64 0, .int .u64 0, .int .i64 0, .int .i64 0, .int .i64 0, .slice none 0 0]) (by simp)).alloc _, (((Below.refl _ w).alloc (Nat.le_refl _) _).alloc (by simp) _).alloc (by simp; omega) _⟩, Row.new (cs := [.int .i64 p.op, .int .u64 p.set.a, .int .u64 p.set.b, .int .u64 p.set.c, .int .u64 p.set.d, .int .i64 p.lo, .int .i64 p.hi, .int .i64 p.gr, .slice none 0 0]) (by simp)⟩
      case round =>
        obtain ⟨k, a, c, L, hk, rfl, HL, HX⟩ := hrel
        have q1 := HX.out.1.2.1.c9
        have hB := HX.out.1.2.1.lt
        have q3 := HX.out.2.c9
        have hB3 := HX.out.2.lt
        have HBL : Hid (Below wb.heap.size wb wr) := HBW.out.trans (HX.out.1.2.2.2.mono HBW.out.size)
        by_cases hlt : k < xs.length
        · obtain ⟨b, o, p', ad1, n1, cap1, rfl, HC0, HI0, hbb⟩ := HAL.out.kid HBL.out k hlt
          go_wp2_with (first | (with_reducible (refine wpList_load_agg rfl 28 _ rfl b (o + (k * 9)) rfl _ _ HC0.out Tryd.underlying28 rfl (size_re9 _ _ _ _ _ _ _ _ _) ?_)))
          have hsg := Re.size_get (xs := xs) (i := k) (a := xs[k]) (by simp [hlt])
          have hX1 := HX.out.later ((Below.refl _ wr).alloc (Nat.le_refl _) (.cells #[.int .i64 p'.op, .int .u64 p'.set.a, .int .u64 p'.set.b, .int .u64 p'.set.c, .int .u64 p'.set.d, .int .i64 p'.lo, .int .i64 p'.hi, .int .i64 p'.gr, .slice ad1 n1 cap1] 28))
          have hA1 := Row.new (w := wr) (B := wr.heap.size) (T := 28) (cs := [.int .i64 p'.op, .int .u64 p'.set.a, .int .u64 p'.set.b, .int .u64 p'.set.c, .int .u64 p'.set.d, .int .i64 p'.lo, .int .i64 p'.hi, .int .i64 p'.gr, .slice ad1 n1 cap1]) rfl
          have HB1 := hid (show Below wb.heap.size wb (wr.alloc (.cells #[.int .i64 p'.op, .int .u64 p'.set.a, .int .u64 p'.set.b, .int .u64 p'.set.c, .int .u64 p'.set.d, .int .i64 p'.lo, .int .i64 p'.hi, .int .i64 p'.gr, .slice ad1 n1 cap1] 28)) from HBL.out.alloc (by have := HBL.out.size; exact this) _)
          have hz1 : (wr.alloc (.cells #[.int .i64 p'.op, .int .u64 p'.set.a, .int .u64 p'.set.b, .int .u64 p'.set.c, .int .u64 p'.set.d, .int .i64 p'.lo, .int .i64 p'.hi, .int .i64 p'.gr, .slice ad1 n1 cap1] 28)).heap.size = wr.heap.size + 1 := by simp
          generalize (wr.alloc (.cells #[.int .i64 p'.op, .int .u64 p'.set.a, .int .u64 p'.set.b, .int .u64 p'.set.c, .int .u64 p'.set.d, .int .i64 p'.lo, .int .i64 p'.hi, .int .i64 p'.gr, .slice ad1 n1 cap1] 28)) = y at hX1 hA1 HB1 hz1 ⊢
          have HC := hid (fun (x : World) (hx : Grow y.drew x) => And.intro ((hX1.2.drew.below hx hX1.2.drew.lt).c9) ((hA1.drew.below hx hA1.drew.lt).c9))
          have HS := hid (fun (x : World) (hx : Grow y.drew x) => (show wr.heap.size + 1 ≤ x.heap.size by have := Grow.size hx; simp at this; omega))
          have HBX := hid (fun (x : World) (hx : Grow y.drew x) => (HB1.out.drew.trans (hx.mono (by have := HB1.out.size; exact this)) : Below wb.heap.size wb x))
          have HX1 := hid hX1
          clear hX1 hA1 hz1 q1 q3 HB1
          refine wp_region_inv 5 (Grow) (by kernel_rfl) (by kernel_rfl) (Grow.refl) (fun _ _ _ => Grow.trans) ?_
          simp only [fill, dstOf, Act.put, List.take_succ_cons, List.take_zero, List.getElem?_toArray, List.getElem?_cons_zero, List.getElem?_cons_succ, Option.bind_some, List.setIfInBounds_toArray, List.set_cons_zero, List.set_cons_succ]
          refine Plan.det 1 rfl (Grow.refl) ?_
          apply Exists.intro
          refine ⟨fun vs x hR hF K hK => ?_, ?_⟩
          · clear hF
            go_simp
            exact hK _ _ (Grow.refl _) rfl
          refine Plan.det 2 rfl (Grow.refl) ?_
          apply Exists.intro
          refine ⟨fun vs x hR hF K hK => ?_, ?_⟩
          · have f0 := hF 0 _ _ rfl rfl; have hc := HC.out x hR; clear hF
            go_simp
            exact hK _ _ (Grow.refl _) rfl
          refine Plan.det 3 rfl (Grow.refl) ?_
          apply Exists.intro
          refine ⟨fun vs x hR hF K hK => ?_, ?_⟩
          · have hc := HC.out x hR; clear hF
            go_simp
            exact hK _ _ (Grow.refl _) rfl
          refine Plan.rel 4 rfl (Grow.refl) (fun v y => ∃ cs' : List Value, v = .agg cs'.toArray ∧ xs[k].expand.InS (wr.heap.size + 1 ≤ ·) y cs') (fun v a b hR ⟨cs', h1, h2⟩ => ⟨cs', h1, h2.below hR⟩) (fun vs x hR hF K hK => ?_) ?_
          · have f2 := hF 0 _ _ rfl rfl
            go_simp
            refine (HIH.out xs[k] (by simp) _ _ HI0.out (HBX.out x hR) (Re.okrs_get xs HOK.out.2 k hlt) (Re.typed_kid HTY.out k hlt) (by omega)).mono ?_
            rintro e x1 ⟨cs', rfl, hin, hbe⟩
            exact ⟨_, rfl, hK _ _ hbe ⟨cs', rfl, hin.mono (fun i hi => Nat.le_trans (HS.out x hR) hi)⟩⟩
          refine Plan.rel 5 rfl (Grow.refl) (fun v y => ∃ (b : Nat) (cs' : List Value), v = .slice (some ⟨b, 0, none⟩) 1 1 ∧ Row y b cs' 28 ∧ xs[k].expand.InS (wr.heap.size + 1 ≤ ·) y cs') (fun v a b hR ⟨B, cs', h1, h2, h3⟩ => ⟨B, cs', h1, h2.below hR h2.lt, h3.below hR⟩) (fun vs x hR hF K hK => ?_) ?_
          · have f3 := hF 0 _ _ rfl rfl
            obtain ⟨cs', e5, h5⟩ := f3
            obtain ⟨p', ad', m', cap', rfl⟩ := Re.cells_shape h5.self
            go_simp
            exact hK _ _ (Grow.alloc _ _) ⟨_, _, rfl, Row.at _ _ _, h5.below (Grow.alloc _ _)⟩
          refine Plan.nil (fun vs x hR hF => ?_)
          have f0 := hF 4 _ _ rfl; have f1 := hF 3 _ _ rfl; have f2 := hF 2 _ _ rfl; have f3 := hF 1 _ _ rfl; have f4 := hF 0 _ _ rfl
          clear hF
          simp only [f0, f1, f2]
          clear f0 f1 f2
          simp only [List.drop_succ_cons, List.drop_zero]
          obtain ⟨cs3, e3, -⟩ := f3
          obtain ⟨b4, cs4, e4, hr4, hin4⟩ := f4
          obtain ⟨q, ad', m', cap'', rfl⟩ := Re.cells_shape hin4.self
          simp only [e3, e4]
          have HX2 := hid (HX1.out.later ((Below.refl _ y).drew.trans hR))
          have hIN : xs[k].expand.InS (fun i => w.heap.size + 3 ≤ i ∧ (Value.slice a k c).ownBlock ≠ some i) x [.int .i64 q.op, .int .u64 q.set.a, .int .u64 q.set.b, .int .u64 q.set.c, .int .u64 q.set.d, .int .i64 q.lo, .int .i64 q.hi, .int .i64 q.gr, .slice ad' m' cap''] := hin4.mono (fun i hi => ⟨by omega, fun e => by have := (HX.out.1.1.lt i e).2; omega⟩)
          have HIN := hid hIN
          have HR4 := hid hr4
          have hx3 : w.heap.size + 3 ≤ x.heap.size := by have := HS.out x hR; omega
          obtain ⟨i0, hi, hz0, hz1, hz2⟩ := info_parts info_re9'
          clear hR HC hIN hin4 hr4 e3 e4 hsg
          go_wp2_with (at_builtin; refine wpList_append_row rfl _ _ 26 rfl (w.heap.size + 3) 28 i0 (.agg #[.int .i64 0, .int .u64 0, .int .u64 0, .int .u64 0, .int .u64 0, .int .i64 0, .int .i64 0, .int .i64 0, .slice none 0 0]) 9 88 Tryd.underlying26 hi hz0 hz1 hz2 rfl (by decide) _ k (L.flatMap Prod.snd) rfl (by have := HX2.out.1.1.1; rw [HL.out.1] at this; exact this) ⟨b4, 0, none⟩ 1 1 [.int .i64 q.op, .int .u64 q.set.a, .int .u64 q.set.b, .int .u64 q.set.c, .int .u64 q.set.d, .int .i64 q.lo, .int .i64 q.hi, .int .i64 q.gr, .slice ad' m' cap''] rfl rfl ?c1 ?c2 ?c3 ?c4 ?c5 (by decide) ?_)
          case c1 =>
            intro j u hj
            rw [Addr.add_lit, Nat.zero_add, HR4.out.cell, hj]
          case c2 => intro u hu; simp at hu; rcases hu with rfl | rfl | rfl | rfl | rfl | rfl | rfl | rfl | rfl <;> rfl
          case c3 => unfold maxLen; omega
          case c4 => omega
          case c5 => omega
          intro a2 c2 w3 hown hgrow hnw
          have hx4 : w.heap.size + 3 ≤ w3.heap.size := Nat.le_trans hx3 hgrow.size
          have hrow : Row w3 (w.heap.size + 2) (p.cells (.slice a k c)) 28 := (grown_block hgrow (fun g hg => (HX2.out.1.1.lt g hg).1) (w.heap.size + 2) (by omega) (by omega)).trans HX2.out.2
          have hX3 := HX2.out.1.push (by omega) (by rw [HL.out.1]) hown hgrow hnw HIN.out
          have q5 := hrow.c9
          have HX3 := hid hX3
          have HROW := hid hrow
          clear hown hgrow hnw hrow hX3 hi hz0 hz1 hz2
          go_wp2_with fail
          go_roundw
          case rel =>
            refine ⟨k + 1, a2, c2, L ++ [(xs[k].expand, ([.int .i64 q.op, .int .u64 q.set.a, .int .u64 q.set.b, .int .u64 q.set.c, .int .u64 q.set.d, .int .i64 q.lo, .int .i64 q.hi, .int .i64 q.gr, .slice ad' m' cap''] : List Value))], by omega, by go_num, ⟨by simp [HL.out.1], by rw [List.map_append, HL.out.2, List.take_add_one, List.getElem?_eq_getElem hlt, List.map_append]; rfl⟩, ?_, HROW.out.set 8 _⟩
            exact ⟨HX3.out.1.but (M := w.heap.size + 2) ((But.refl _ _).setCell (.inl (by simp)) _) (fun g hg => by have := (HX3.out.1.lt g hg).1; omega) (by omega), HX3.out.2.1.other (by omega) _ _, HX3.out.2.2.1.other (by omega) _ _, HX3.out.2.2.2.setCell (by show w.heap.size ≤ w.heap.size + 2; omega) _⟩
          case measure => simp [intOf]; omega
        · obtain rfl : k = xs.length := by omega
          have q2 := HX.out.1.2.2.1.c9
          have z2 := HX.out.1.2.2.1.lt
          have hLm : L.map Prod.fst = xs.map Re.expand := by rw [HL.out.2, List.take_length]
          go_wp2_with fail
          have hT := HX.out.1.1.node (fun _ h => h) p HWF.out
          rw [hLm] at hT
          have hb := below9 HX.out.1.2.2.2 (by omega : w.heap.size ≤ w.heap.size + 1) (.int .i64 p.op) (.int .u64 p.set.a) (.int .u64 p.set.b) (.int .u64 p.set.c) (.int .u64 p.set.d) (.int .i64 p.lo) (.int .i64 p.hi) (.int .i64 p.gr) (.slice a xs.length c)
          refine ret_row 2 28 rfl (w.heap.size + 1) rfl (p.cells (.slice a xs.length c)) (CellsAt.of_row (T := 28) (HX.out.1.2.2.1.set9 _ _ _ _ _ _ _ _ _)) _ Tryd.underlying28 rfl (size_relen rfl) rfl ?_
          refine ⟨_, rfl, ?_, hb⟩
          rw [e1.out]
          refine (hT.but (Bs := [w.heap.size + 1]) (But.set9 (But.refl _ wr) (.inl (by simp)) (.int .i64 p.op) (.int .u64 p.set.a) (.int .u64 p.set.b) (.int .u64 p.set.c) (.int .u64 p.set.d) (.int .i64 p.lo) (.int .i64 p.hi) (.int .i64 p.gr) (.slice a xs.length c)) (fun i hi => by simp; omega)).mono (fun i hi => by omega)
end Go.Proofs.YthnpbopnpdlmnaaDoor
