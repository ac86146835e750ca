/- The law's plain: a tree without its groups. -/
import Derived.Test.YtnlaffhkcdfkjaaExpanded
import Derived.Test.YtnlaffhkcdfkjaaBare
namespace Go.Proofs.Ytnlaffhkcdfkjaa
open Go.RowKit
attribute [local go_sem] gives givesUpon

-- def BL := [.int .i64 p.op, .int .u64 p.set.a, .int .u64 p.set.b, .int .u64 p.set.c, .int .u64 p.set.d, .int .i64 p.lo, .int .i64 p.hi, .int .i64 p.gr, .slice ad xs.length cap]
-- def BX := [.int .i64 p.op, .int .u64 p.set.a, .int .u64 p.set.b, .int .u64 p.set.c, .int .u64 p.set.d, .int .i64 p.lo, .int .i64 p.hi, .int .i64 p.gr, .slice ad 1 cap]
-- def Z9 := [.int .i64 0, .int .u64 0, .int .u64 0, .int .u64 0, .int .u64 0, .int .i64 0, .int .i64 0, .int .i64 0, .slice none 0 0]
-- def E9 := [.int .i64 p.op, .int .u64 p.set.a, .int .u64 p.set.b, .int .u64 p.set.c, .int .u64 p.set.d, .int .i64 p.lo, .int .i64 p.hi, .int .i64 p.gr, .slice none 0 0]
-- def R9 := [.int .i64 q.op, .int .u64 q.set.a, .int .u64 q.set.b, .int .u64 q.set.c, .int .u64 q.set.d, .int .i64 q.lo, .int .i64 q.hi, .int .i64 q.gr, .slice ad' m' cap'']

set_option maxRecDepth 100000 in
set_option maxHeartbeats 4000000 in
theorem bare_any (wb : World) (t : Re) : ∀ (w : World) (cs : List Value), t.In wb cs → Below wb.heap.size wb w → t.size ≤ 1048576 →
    Calls Try.prog 12 #[.agg cs.toArray] w fun e w' => ∃ cs', e = .returned (.agg cs'.toArray) ∧ t.bare.InS (w.heap.size ≤ ·) w' cs' ∧ Below w.heap.size w w' := by
  induction t using Re.ind with
  | h p xs ih =>
    intro w cs hIn hbw hsz
    rw [Re.In] at hIn
    obtain ⟨ad, cap, rfl, hwf, hlc, hcm, hnil, hall⟩ := hIn
    rw [Re.size_mk] at hsz
    have hlen := Re.sizes_len xs
    have HIH := hid ih
    have HAL := hid hall
    have HBW := hid hbw
    have HWF := hid hwf
    clear ih hall hwf hbw
    simp only [Pay.cells]
    rcases Decidable.em (p.op = 6 ∧ xs.length = 1) with o6 | o6
    · obtain ⟨x0, rfl⟩ : ∃ x, xs = [x] := by
        match xs, o6.2 with
        | [x], _ => exact ⟨x, rfl⟩
      have d6 : (p.op == 6) = true := by simpa using o6.1
      have e1 := hid (Re.bare_one (p := p) (x := x0) o6.1)
      have hone : ([x0] : List Re).length = 1 := rfl
      simp only [hone]
      clear o6
      go_enter Try.func12, Try.ntmps12
      have hr0 : Row ((w.alloc (.cells #[.int .i64 p.op, .int .u64 p.set.a, .int .u64 p.set.b, .int .u64 p.set.c, .int .u64 p.set.d, .int .i64 p.lo, .int .i64 p.hi, .int .i64 p.gr, .slice ad 1 cap] 28)).alloc (.cells #[.int .i64 0, .int .u64 0, .int .u64 0, .int .u64 0, .int .u64 0, .int .i64 0, .int .i64 0, .int .i64 0, .slice none 0 0] 28)) w.heap.size [.int .i64 p.op, .int .u64 p.set.a, .int .u64 p.set.b, .int .u64 p.set.c, .int .u64 p.set.d, .int .i64 p.lo, .int .i64 p.hi, .int .i64 p.gr, .slice ad 1 cap] 28 ∧ Row ((w.alloc (.cells #[.int .i64 p.op, .int .u64 p.set.a, .int .u64 p.set.b, .int .u64 p.set.c, .int .u64 p.set.d, .int .i64 p.lo, .int .i64 p.hi, .int .i64 p.gr, .slice ad 1 cap] 28)).alloc (.cells #[.int .i64 0, .int .u64 0, .int .u64 0, .int .u64 0, .int .u64 0, .int .i64 0, .int .i64 0, .int .i64 0, .slice none 0 0] 28)) (w.heap.size + 1) [.int .i64 0, .int .u64 0, .int .u64 0, .int .u64 0, .int .u64 0, .int .i64 0, .int .i64 0, .int .i64 0, .slice none 0 0] 28 ∧ Below w.heap.size w ((w.alloc (.cells #[.int .i64 p.op, .int .u64 p.set.a, .int .u64 p.set.b, .int .u64 p.set.c, .int .u64 p.set.d, .int .i64 p.lo, .int .i64 p.hi, .int .i64 p.gr, .slice ad 1 cap] 28)).alloc (.cells #[.int .i64 0, .int .u64 0, .int .u64 0, .int .u64 0, .int .u64 0, .int .i64 0, .int .i64 0, .int .i64 0, .slice none 0 0] 28)) ∧ ((w.alloc (.cells #[.int .i64 p.op, .int .u64 p.set.a, .int .u64 p.set.b, .int .u64 p.set.c, .int .u64 p.set.d, .int .i64 p.lo, .int .i64 p.hi, .int .i64 p.gr, .slice ad 1 cap] 28)).alloc (.cells #[.int .i64 0, .int .u64 0, .int .u64 0, .int .u64 0, .int .u64 0, .int .i64 0, .int .i64 0, .int .i64 0, .slice none 0 0] 28)).heap.size = w.heap.size + 2 := ⟨(Row.new (cs := [.int .i64 p.op, .int .u64 p.set.a, .int .u64 p.set.b, .int .u64 p.set.c, .int .u64 p.set.d, .int .i64 p.lo, .int .i64 p.hi, .int .i64 p.gr, .slice ad 1 cap]) rfl).alloc _, Row.new (cs := [.int .i64 0, .int .u64 0, .int .u64 0, .int .u64 0, .int .u64 0, .int .i64 0, .int .i64 0, .int .i64 0, .slice none 0 0]) (by simp), ((Below.refl _ w).alloc (Nat.le_refl _) _).alloc (by simp) _, by simp⟩
      have HR0 := hid hr0
      clear hr0
      obtain ⟨b, o, p', ad1, n1, cap1, rfl, HC0, HI0, hbb⟩ := HAL.out.kid HBW.out 0 (by simp)
      simp only [Nat.zero_mul, Nat.add_zero] at HC0
      have HCY := hid (CellsAt.below HC0.out HR0.out.2.2.1)
      have HCA := hid (HIH.out x0 (by simp) _ _ HI0.out (HBW.out.trans (HR0.out.2.2.1.mono HBW.out.size)) (by have := Re.size_get (xs := [x0]) (i := 0) (a := x0) rfl; omega))
      go_wp2_with (first | (with_reducible (refine wpList_load_agg rfl 28 _ rfl b o rfl _ _ HCY.out Try.underlying28 rfl (size_re9 _ _ _ _ _ _ _ _ _) ?_)))
      refine HCA.out.mono ?_
      rintro e w1 ⟨cs1, rfl, hin1, hb1⟩
      obtain ⟨q8, ad8, m8, cap8, rfl⟩ := Re.cells_shape hin1.self
      have HR := hid (HR0.out.2.1.below hb1 HR0.out.2.1.lt)
      have HB := hid (HR0.out.2.2.1.trans (hb1.mono (by rw [HR0.out.2.2.2]; omega)))
      have HIN8 := hid hin1
      have HSZ := HR0.out.2.2.2
      have q6 := HR.out.c9
      have z6 := HR.out.lt
      clear hin1 hb1 HCA HC0 HCY
      go_wp2_with fail
      have hb := below9 HB.out (by omega : w.heap.size ≤ w.heap.size + 1) (.int .i64 q8.op) (.int .u64 q8.set.a) (.int .u64 q8.set.b) (.int .u64 q8.set.c) (.int .u64 q8.set.d) (.int .i64 q8.lo) (.int .i64 q8.hi) (.int .i64 q8.gr) (.slice ad8 m8 cap8)
      refine ret_row 2 28 rfl (w.heap.size + 1) rfl [.int .i64 q8.op, .int .u64 q8.set.a, .int .u64 q8.set.b, .int .u64 q8.set.c, .int .u64 q8.set.d, .int .i64 q8.lo, .int .i64 q8.hi, .int .i64 q8.gr, .slice ad8 m8 cap8] (CellsAt.of_row (T := 28) (HR.out.set9 _ _ _ _ _ _ _ _ _)) _ Try.underlying28 rfl (size_relen rfl) rfl ?_
      refine ⟨_, rfl, ?_, hb⟩
      rw [e1.out]
      refine (HIN8.out.but (Bs := [w.heap.size + 1]) (But.set9 (But.refl _ w1) (.inl (by simp)) (.int .i64 q8.op) (.int .u64 q8.set.a) (.int .u64 q8.set.b) (.int .u64 q8.set.c) (.int .u64 q8.set.d) (.int .i64 q8.lo) (.int .i64 q8.hi) (.int .i64 q8.gr) (.slice ad8 m8 cap8)) (fun i hi => by rw [HSZ] at hi; simp; omega)).mono (fun i hi => by rw [HSZ] at hi; omega)
    · have e1 := hid (Re.bare_many o6)
      rcases (show (p.op == 6) = true ∨ (p.op == 6) = false by cases (p.op == 6) <;> simp) with d6 | d6
      · have d1 : ((xs.length : Int) == 1) = false := by
          have h6 : p.op = 6 := by simpa using d6
          have : ¬ xs.length = 1 := fun h => o6 ⟨h6, h⟩
          simp; omega
        clear o6
        go_enter Try.func12, Try.ntmps12
        go_wp2_with fail
        go_loopw [4] (fun i wr => ∃ (k : Nat) (a : Option Addr) (c : Nat) (L : List (Re × List Value)), k ≤ xs.length ∧ i = .int .i64 k ∧ Hid (L.length = k ∧ L.map Prod.fst = (xs.take k).map Re.bare) ∧ Hid (EAt w p (.slice ad xs.length cap) (.slice a k c) L wr)) (fun i _ => xs.length - (intOf i).toNat)
        case atStart =>
          refine ⟨0, none, 0, [], by omega, rfl, ⟨rfl, rfl⟩, ⟨OwnRes.nil _ _ _, ((Row.new (cs := [.int .i64 p.op, .int .u64 p.set.a, .int .u64 p.set.b, .int .u64 p.set.c, .int .u64 p.set.d, .int .i64 p.lo, .int .i64 p.hi, .int .i64 p.gr, .slice ad xs.length cap]) rfl).alloc _).alloc _, (Row.new (cs := [.int .i64 0, .int .u64 0, .int .u64 0, .int .u64 0, .int .u64 0, .int .i64 0, .int .i64 0, .int .i64 0, .slice none 0 0]) (by simp)).alloc _, (((Below.refl _ w).alloc (Nat.le_refl _) _).alloc (by simp) _).alloc (by simp; omega) _⟩, Row.new (cs := [.int .i64 p.op, .int .u64 p.set.a, .int .u64 p.set.b, .int .u64 p.set.c, .int .u64 p.set.d, .int .i64 p.lo, .int .i64 p.hi, .int .i64 p.gr, .slice none 0 0]) (by simp)⟩
        case round =>
          obtain ⟨k, a, c, L, hk, rfl, HL, HX⟩ := hrel
          have q1 := HX.out.1.2.1.c9
          have hB := HX.out.1.2.1.lt
          have q3 := HX.out.2.c9
          have hB3 := HX.out.2.lt
          have HBL : Hid (Below wb.heap.size wb wr) := HBW.out.trans (HX.out.1.2.2.2.mono HBW.out.size)
          by_cases hlt : k < xs.length
          · obtain ⟨b, o, p', ad1, n1, cap1, rfl, HC0, HI0, hbb⟩ := HAL.out.kid HBL.out k hlt
            have hsg := Re.size_get (xs := xs) (i := k) (a := xs[k]) (by simp [hlt])
            have HX1 := hid HX.out
            have HC := hid (fun (x : World) (hx : Grow wr.drew x) => And.intro ((HX1.out.2.drew.below hx HX1.out.2.drew.lt).c9) ((HX1.out.1.2.1.drew.below hx HX1.out.1.2.1.drew.lt).c9))
            have HK1 := hid (fun (x : World) (hx : Grow wr.drew x) => CellsAt.below (w := wr.drew) HC0.out hx)
            have HS := hid (fun (x : World) (hx : Grow wr.drew x) => (show wr.heap.size ≤ x.heap.size by have := Grow.size hx; simp at this; omega))
            have HBX := hid (fun (x : World) (hx : Grow wr.drew x) => (HBL.out.drew.trans (hx.mono (by have := HBL.out.size; exact this)) : Below wb.heap.size wb x))
            go_wp2_with fail
            clear q1 q3
            refine wp_region_inv 9 (Grow) (by kernel_rfl) (by kernel_rfl) (Grow.refl) (fun _ _ _ => Grow.trans) ?_
            simp only [fill, dstOf, Act.put, List.take_succ_cons, List.take_zero, List.getElem?_toArray, List.getElem?_cons_zero, List.getElem?_cons_succ, Option.bind_some, List.setIfInBounds_toArray, List.set_cons_zero, List.set_cons_succ]
            refine Plan.det 1 rfl (Grow.refl) ?_
            apply Exists.intro
            refine ⟨fun vs x hR hF K hK => ?_, ?_⟩
            · clear hF
              go_simp
              exact hK _ _ (Grow.refl _) rfl
            refine Plan.det 2 rfl (Grow.refl) ?_
            apply Exists.intro
            refine ⟨fun vs x hR hF K hK => ?_, ?_⟩
            · have f0 := hF 0 _ _ rfl rfl; have hc := HC.out x hR; clear hF
              go_simp
              exact hK _ _ (Grow.refl _) rfl
            refine Plan.det 3 rfl (Grow.refl) ?_
            apply Exists.intro
            refine ⟨fun vs x hR hF K hK => ?_, ?_⟩
            · clear hF
              go_simp
              exact hK _ _ (Grow.refl _) rfl
            refine Plan.det 4 rfl (Grow.refl) ?_
            apply Exists.intro
            refine ⟨fun vs x hR hF K hK => ?_, ?_⟩
            · have f2 := hF 0 _ _ rfl rfl; have hc := HC.out x hR; clear hF
              go_simp
              exact hK _ _ (Grow.refl _) rfl
            refine Plan.det 5 rfl (Grow.refl) ?_
            apply Exists.intro
            refine ⟨fun vs x hR hF K hK => ?_, ?_⟩
            · clear hF
              go_simp
              exact hK _ _ (Grow.refl _) rfl
            refine Plan.det 6 rfl (Grow.refl) ?_
            apply Exists.intro
            refine ⟨fun vs x hR hF K hK => ?_, ?_⟩
            · have f3 := hF 1 _ _ rfl rfl; have f4 := hF 0 _ _ rfl rfl; clear hF
              go_simp
              exact hK _ _ (Grow.refl _) rfl
            refine Plan.det 7 rfl (Grow.refl) ?_
            apply Exists.intro
            refine ⟨fun vs x hR hF K hK => ?_, ?_⟩
            · have f5 := hF 0 _ _ rfl rfl; have hc := HC.out x hR; clear hF
              rw [if_pos (show Region.wanted _ _ = true from rfl)]
              refine gives_load_agg 28 _ rfl b (o + k * 9) f5 _ _ (HK1.out x hR) Try.underlying28 rfl (size_re9 _ _ _ _ _ _ _ _ _) ?_
              exact hK _ _ (Grow.refl _) rfl
            refine Plan.rel 8 rfl (Grow.refl) (fun v y => ∃ cs' : List Value, v = .agg cs'.toArray ∧ xs[k].bare.InS (wr.heap.size ≤ ·) y cs') (fun v a b hR ⟨cs', h1, h2⟩ => ⟨cs', h1, h2.below hR⟩) (fun vs x hR hF K hK => ?_) ?_
            · have f6 := hF 0 _ _ rfl rfl
              go_simp
              refine (HIH.out xs[k] (by simp) _ _ HI0.out (HBX.out x hR) (by omega)).mono ?_
              rintro e x1 ⟨cs', rfl, hin, hbe⟩
              exact ⟨_, rfl, hK _ _ hbe ⟨cs', rfl, hin.mono (fun i hi => Nat.le_trans (HS.out x hR) hi)⟩⟩
            refine Plan.rel 9 rfl (Grow.refl) (fun v y => ∃ (b : Nat) (cs' : List Value), v = .slice (some ⟨b, 0, none⟩) 1 1 ∧ Row y b cs' 28 ∧ xs[k].bare.InS (wr.heap.size ≤ ·) y cs') (fun v a b hR ⟨B, cs', h1, h2, h3⟩ => ⟨B, cs', h1, h2.below hR h2.lt, h3.below hR⟩) (fun vs x hR hF K hK => ?_) ?_
            · have f7 := hF 0 _ _ rfl rfl
              obtain ⟨cs', e5, h5⟩ := f7
              obtain ⟨p', ad', m', cap', rfl⟩ := Re.cells_shape h5.self
              go_simp
              exact hK _ _ (Grow.alloc _ _) ⟨_, _, rfl, Row.at _ _ _, h5.below (Grow.alloc _ _)⟩
            refine Plan.nil (fun vs x hR hF => ?_)
            have f0 := hF 8 _ _ rfl; have f1 := hF 7 _ _ rfl; have f2 := hF 6 _ _ rfl; have f3 := hF 5 _ _ rfl; have f4 := hF 4 _ _ rfl; have f5 := hF 3 _ _ rfl; have f6 := hF 2 _ _ rfl; have f7 := hF 1 _ _ rfl; have f8 := hF 0 _ _ rfl
            clear hF
            simp only [f0, f1, f2, f3, f4, f5, f6]
            clear f0 f1 f2 f3 f4 f5 f6
            simp only [List.drop_succ_cons, List.drop_zero]
            obtain ⟨cs3, e3, -⟩ := f7
            obtain ⟨b4, cs4, e4, hr4, hin4⟩ := f8
            obtain ⟨q, ad', m', cap'', rfl⟩ := Re.cells_shape hin4.self
            simp only [e3, e4]
            have HX2 := hid (HX1.out.later ((Below.refl _ wr).drew.trans hR))
            have hIN : xs[k].bare.InS (fun i => w.heap.size + 3 ≤ i ∧ (Value.slice a k c).ownBlock ≠ some i) x [.int .i64 q.op, .int .u64 q.set.a, .int .u64 q.set.b, .int .u64 q.set.c, .int .u64 q.set.d, .int .i64 q.lo, .int .i64 q.hi, .int .i64 q.gr, .slice ad' m' cap''] := hin4.mono (fun i hi => ⟨by have := HX.out.2.lt; omega, fun e => by have := (HX.out.1.1.lt i e).2; omega⟩)
            have HIN := hid hIN
            have HR4 := hid hr4
            have hx3 : w.heap.size + 3 ≤ x.heap.size := by have := HS.out x hR; have := HX.out.2.lt; omega
            obtain ⟨i0, hi, hz0, hz1, hz2⟩ := info_parts info_re9'
            clear hR HC hIN hin4 hr4 e3 e4 hsg
            go_wp2_with (at_builtin; refine wpList_append_row rfl _ _ 26 rfl (w.heap.size + 3) 28 i0 (.agg #[.int .i64 0, .int .u64 0, .int .u64 0, .int .u64 0, .int .u64 0, .int .i64 0, .int .i64 0, .int .i64 0, .slice none 0 0]) 9 88 Try.underlying26 hi hz0 hz1 hz2 rfl (by decide) _ k (L.flatMap Prod.snd) rfl (by have := HX2.out.1.1.1; rw [HL.out.1] at this; exact this) ⟨b4, 0, none⟩ 1 1 [.int .i64 q.op, .int .u64 q.set.a, .int .u64 q.set.b, .int .u64 q.set.c, .int .u64 q.set.d, .int .i64 q.lo, .int .i64 q.hi, .int .i64 q.gr, .slice ad' m' cap''] rfl rfl ?c1 ?c2 ?c3 ?c4 ?c5 (by decide) ?_)
            case c1 =>
              intro j u hj
              rw [Addr.add_lit, Nat.zero_add, HR4.out.cell, hj]
            case c2 => intro u hu; simp at hu; rcases hu with rfl | rfl | rfl | rfl | rfl | rfl | rfl | rfl | rfl <;> rfl
            case c3 => unfold maxLen; omega
            case c4 => omega
            case c5 => omega
            intro a2 c2 w3 hown hgrow hnw
            have hx4 : w.heap.size + 3 ≤ w3.heap.size := Nat.le_trans hx3 hgrow.size
            have hrow : Row w3 (w.heap.size + 2) (p.cells (.slice a k c)) 28 := (grown_block hgrow (fun g hg => (HX2.out.1.1.lt g hg).1) (w.heap.size + 2) (by omega) (by omega)).trans HX2.out.2
            have hX3 := HX2.out.1.push (by omega) (by rw [HL.out.1]) hown hgrow hnw HIN.out
            have q5 := hrow.c9
            have HX3 := hid hX3
            have HROW := hid hrow
            clear hown hgrow hnw hrow hX3 hi hz0 hz1 hz2
            go_wp2_with fail
            go_roundw
            case rel =>
              refine ⟨k + 1, a2, c2, L ++ [(xs[k].bare, ([.int .i64 q.op, .int .u64 q.set.a, .int .u64 q.set.b, .int .u64 q.set.c, .int .u64 q.set.d, .int .i64 q.lo, .int .i64 q.hi, .int .i64 q.gr, .slice ad' m' cap''] : List Value))], by omega, by go_num, ⟨by simp [HL.out.1], by rw [List.map_append, HL.out.2, List.take_add_one, List.getElem?_eq_getElem hlt, List.map_append]; rfl⟩, ?_, HROW.out.set 8 _⟩
              exact ⟨HX3.out.1.but (M := w.heap.size + 2) ((But.refl _ _).setCell (.inl (by simp)) _) (fun g hg => by have := (HX3.out.1.lt g hg).1; omega) (by omega), HX3.out.2.1.other (by omega) _ _, HX3.out.2.2.1.other (by omega) _ _, HX3.out.2.2.2.setCell (by show w.heap.size ≤ w.heap.size + 2; omega) _⟩
            case measure => simp [intOf]; omega
          · obtain rfl : k = xs.length := by omega
            have q2 := HX.out.1.2.2.1.c9
            have z2 := HX.out.1.2.2.1.lt
            have hLm : L.map Prod.fst = xs.map Re.bare := by rw [HL.out.2, List.take_length]
            go_wp2_with fail
            have hT := HX.out.1.1.node (fun _ h => h) p HWF.out
            rw [hLm] at hT
            have hb := below9 HX.out.1.2.2.2 (by omega : w.heap.size ≤ w.heap.size + 1) (.int .i64 p.op) (.int .u64 p.set.a) (.int .u64 p.set.b) (.int .u64 p.set.c) (.int .u64 p.set.d) (.int .i64 p.lo) (.int .i64 p.hi) (.int .i64 p.gr) (.slice a xs.length c)
            refine ret_row 2 28 rfl (w.heap.size + 1) rfl (p.cells (.slice a xs.length c)) (CellsAt.of_row (T := 28) (HX.out.1.2.2.1.set9 _ _ _ _ _ _ _ _ _)) _ Try.underlying28 rfl (size_relen rfl) rfl ?_
            refine ⟨_, rfl, ?_, hb⟩
            rw [e1.out]
            refine (hT.but (Bs := [w.heap.size + 1]) (But.set9 (But.refl _ wr) (.inl (by simp)) (.int .i64 p.op) (.int .u64 p.set.a) (.int .u64 p.set.b) (.int .u64 p.set.c) (.int .u64 p.set.d) (.int .i64 p.lo) (.int .i64 p.hi) (.int .i64 p.gr) (.slice a xs.length c)) (fun i hi => by simp; omega)).mono (fun i hi => by omega)
      · clear o6
        go_enter Try.func12, Try.ntmps12
        go_wp2_with fail
        go_loopw [4] (fun i wr => ∃ (k : Nat) (a : Option Addr) (c : Nat) (L : List (Re × List Value)), k ≤ xs.length ∧ i = .int .i64 k ∧ Hid (L.length = k ∧ L.map Prod.fst = (xs.take k).map Re.bare) ∧ Hid (EAt w p (.slice ad xs.length cap) (.slice a k c) L wr)) (fun i _ => xs.length - (intOf i).toNat)
        case atStart =>
          refine ⟨0, none, 0, [], by omega, rfl, ⟨rfl, rfl⟩, ⟨OwnRes.nil _ _ _, ((Row.new (cs := [.int .i64 p.op, .int .u64 p.set.a, .int .u64 p.set.b, .int .u64 p.set.c, .int .u64 p.set.d, .int .i64 p.lo, .int .i64 p.hi, .int .i64 p.gr, .slice ad xs.length cap]) rfl).alloc _).alloc _, (Row.new (cs := [.int .i64 0, .int .u64 0, .int .u64 0, .int .u64 0, .int .u64 0, .int .i64 0, .int .i64 0, .int .i64 0, .slice none 0 0]) (by simp)).alloc _, (((Below.refl _ w).alloc (Nat.le_refl _) _).alloc (by simp) _).alloc (by simp; omega) _⟩, Row.new (cs := [.int .i64 p.op, .int .u64 p.set.a, .int .u64 p.set.b, .int .u64 p.set.c, .int .u64 p.set.d, .int .i64 p.lo, .int .i64 p.hi, .int .i64 p.gr, .slice none 0 0]) (by simp)⟩
        case round =>
          obtain ⟨k, a, c, L, hk, rfl, HL, HX⟩ := hrel
          have q1 := HX.out.1.2.1.c9
          have hB := HX.out.1.2.1.lt
          have q3 := HX.out.2.c9
          have hB3 := HX.out.2.lt
          have HBL : Hid (Below wb.heap.size wb wr) := HBW.out.trans (HX.out.1.2.2.2.mono HBW.out.size)
          by_cases hlt : k < xs.length
          · obtain ⟨b, o, p', ad1, n1, cap1, rfl, HC0, HI0, hbb⟩ := HAL.out.kid HBL.out k hlt
            have hsg := Re.size_get (xs := xs) (i := k) (a := xs[k]) (by simp [hlt])
            have HX1 := hid HX.out
            have HC := hid (fun (x : World) (hx : Grow wr.drew x) => And.intro ((HX1.out.2.drew.below hx HX1.out.2.drew.lt).c9) ((HX1.out.1.2.1.drew.below hx HX1.out.1.2.1.drew.lt).c9))
            have HK1 := hid (fun (x : World) (hx : Grow wr.drew x) => CellsAt.below (w := wr.drew) HC0.out hx)
            have HS := hid (fun (x : World) (hx : Grow wr.drew x) => (show wr.heap.size ≤ x.heap.size by have := Grow.size hx; simp at this; omega))
            have HBX := hid (fun (x : World) (hx : Grow wr.drew x) => (HBL.out.drew.trans (hx.mono (by have := HBL.out.size; exact this)) : Below wb.heap.size wb x))
            go_wp2_with fail
            clear q1 q3
            refine wp_region_inv 9 (Grow) (by kernel_rfl) (by kernel_rfl) (Grow.refl) (fun _ _ _ => Grow.trans) ?_
            simp only [fill, dstOf, Act.put, List.take_succ_cons, List.take_zero, List.getElem?_toArray, List.getElem?_cons_zero, List.getElem?_cons_succ, Option.bind_some, List.setIfInBounds_toArray, List.set_cons_zero, List.set_cons_succ]
            refine Plan.det 1 rfl (Grow.refl) ?_
            apply Exists.intro
            refine ⟨fun vs x hR hF K hK => ?_, ?_⟩
            · clear hF
              go_simp
              exact hK _ _ (Grow.refl _) rfl
            refine Plan.det 2 rfl (Grow.refl) ?_
            apply Exists.intro
            refine ⟨fun vs x hR hF K hK => ?_, ?_⟩
            · have f0 := hF 0 _ _ rfl rfl; have hc := HC.out x hR; clear hF
              go_simp
              exact hK _ _ (Grow.refl _) rfl
            refine Plan.det 3 rfl (Grow.refl) ?_
            apply Exists.intro
            refine ⟨fun vs x hR hF K hK => ?_, ?_⟩
            · clear hF
              go_simp
              exact hK _ _ (Grow.refl _) rfl
            refine Plan.det 4 rfl (Grow.refl) ?_
            apply Exists.intro
            refine ⟨fun vs x hR hF K hK => ?_, ?_⟩
            · have f2 := hF 0 _ _ rfl rfl; have hc := HC.out x hR; clear hF
              go_simp
              exact hK _ _ (Grow.refl _) rfl
            refine Plan.det 5 rfl (Grow.refl) ?_
            apply Exists.intro
            refine ⟨fun vs x hR hF K hK => ?_, ?_⟩
            · clear hF
              go_simp
              exact hK _ _ (Grow.refl _) rfl
            refine Plan.det 6 rfl (Grow.refl) ?_
            apply Exists.intro
            refine ⟨fun vs x hR hF K hK => ?_, ?_⟩
            · have f3 := hF 1 _ _ rfl rfl; have f4 := hF 0 _ _ rfl rfl; clear hF
              go_simp
              exact hK _ _ (Grow.refl _) rfl
            refine Plan.det 7 rfl (Grow.refl) ?_
            apply Exists.intro
            refine ⟨fun vs x hR hF K hK => ?_, ?_⟩
            · have f5 := hF 0 _ _ rfl rfl; have hc := HC.out x hR; clear hF
              rw [if_pos (show Region.wanted _ _ = true from rfl)]
              refine gives_load_agg 28 _ rfl b (o + k * 9) f5 _ _ (HK1.out x hR) Try.underlying28 rfl (size_re9 _ _ _ _ _ _ _ _ _) ?_
              exact hK _ _ (Grow.refl _) rfl
            refine Plan.rel 8 rfl (Grow.refl) (fun v y => ∃ cs' : List Value, v = .agg cs'.toArray ∧ xs[k].bare.InS (wr.heap.size ≤ ·) y cs') (fun v a b hR ⟨cs', h1, h2⟩ => ⟨cs', h1, h2.below hR⟩) (fun vs x hR hF K hK => ?_) ?_
            · have f6 := hF 0 _ _ rfl rfl
              go_simp
              refine (HIH.out xs[k] (by simp) _ _ HI0.out (HBX.out x hR) (by omega)).mono ?_
              rintro e x1 ⟨cs', rfl, hin, hbe⟩
              exact ⟨_, rfl, hK _ _ hbe ⟨cs', rfl, hin.mono (fun i hi => Nat.le_trans (HS.out x hR) hi)⟩⟩
            refine Plan.rel 9 rfl (Grow.refl) (fun v y => ∃ (b : Nat) (cs' : List Value), v = .slice (some ⟨b, 0, none⟩) 1 1 ∧ Row y b cs' 28 ∧ xs[k].bare.InS (wr.heap.size ≤ ·) y cs') (fun v a b hR ⟨B, cs', h1, h2, h3⟩ => ⟨B, cs', h1, h2.below hR h2.lt, h3.below hR⟩) (fun vs x hR hF K hK => ?_) ?_
            · have f7 := hF 0 _ _ rfl rfl
              obtain ⟨cs', e5, h5⟩ := f7
              obtain ⟨p', ad', m', cap', rfl⟩ := Re.cells_shape h5.self
              go_simp
              exact hK _ _ (Grow.alloc _ _) ⟨_, _, rfl, Row.at _ _ _, h5.below (Grow.alloc _ _)⟩
            refine Plan.nil (fun vs x hR hF => ?_)
            have f0 := hF 8 _ _ rfl; have f1 := hF 7 _ _ rfl; have f2 := hF 6 _ _ rfl; have f3 := hF 5 _ _ rfl; have f4 := hF 4 _ _ rfl; have f5 := hF 3 _ _ rfl; have f6 := hF 2 _ _ rfl; have f7 := hF 1 _ _ rfl; have f8 := hF 0 _ _ rfl
            clear hF
            simp only [f0, f1, f2, f3, f4, f5, f6]
            clear f0 f1 f2 f3 f4 f5 f6
            simp only [List.drop_succ_cons, List.drop_zero]
            obtain ⟨cs3, e3, -⟩ := f7
            obtain ⟨b4, cs4, e4, hr4, hin4⟩ := f8
            obtain ⟨q, ad', m', cap'', rfl⟩ := Re.cells_shape hin4.self
            simp only [e3, e4]
            have HX2 := hid (HX1.out.later ((Below.refl _ wr).drew.trans hR))
            have hIN : xs[k].bare.InS (fun i => w.heap.size + 3 ≤ i ∧ (Value.slice a k c).ownBlock ≠ some i) x [.int .i64 q.op, .int .u64 q.set.a, .int .u64 q.set.b, .int .u64 q.set.c, .int .u64 q.set.d, .int .i64 q.lo, .int .i64 q.hi, .int .i64 q.gr, .slice ad' m' cap''] := hin4.mono (fun i hi => ⟨by have := HX.out.2.lt; omega, fun e => by have := (HX.out.1.1.lt i e).2; omega⟩)
            have HIN := hid hIN
            have HR4 := hid hr4
            have hx3 : w.heap.size + 3 ≤ x.heap.size := by have := HS.out x hR; have := HX.out.2.lt; omega
            obtain ⟨i0, hi, hz0, hz1, hz2⟩ := info_parts info_re9'
            clear hR HC hIN hin4 hr4 e3 e4 hsg
            go_wp2_with (at_builtin; refine wpList_append_row rfl _ _ 26 rfl (w.heap.size + 3) 28 i0 (.agg #[.int .i64 0, .int .u64 0, .int .u64 0, .int .u64 0, .int .u64 0, .int .i64 0, .int .i64 0, .int .i64 0, .slice none 0 0]) 9 88 Try.underlying26 hi hz0 hz1 hz2 rfl (by decide) _ k (L.flatMap Prod.snd) rfl (by have := HX2.out.1.1.1; rw [HL.out.1] at this; exact this) ⟨b4, 0, none⟩ 1 1 [.int .i64 q.op, .int .u64 q.set.a, .int .u64 q.set.b, .int .u64 q.set.c, .int .u64 q.set.d, .int .i64 q.lo, .int .i64 q.hi, .int .i64 q.gr, .slice ad' m' cap''] rfl rfl ?c1 ?c2 ?c3 ?c4 ?c5 (by decide) ?_)
            case c1 =>
              intro j u hj
              rw [Addr.add_lit, Nat.zero_add, HR4.out.cell, hj]
            case c2 => intro u hu; simp at hu; rcases hu with rfl | rfl | rfl | rfl | rfl | rfl | rfl | rfl | rfl <;> rfl
            case c3 => unfold maxLen; omega
            case c4 => omega
            case c5 => omega
            intro a2 c2 w3 hown hgrow hnw
            have hx4 : w.heap.size + 3 ≤ w3.heap.size := Nat.le_trans hx3 hgrow.size
            have hrow : Row w3 (w.heap.size + 2) (p.cells (.slice a k c)) 28 := (grown_block hgrow (fun g hg => (HX2.out.1.1.lt g hg).1) (w.heap.size + 2) (by omega) (by omega)).trans HX2.out.2
            have hX3 := HX2.out.1.push (by omega) (by rw [HL.out.1]) hown hgrow hnw HIN.out
            have q5 := hrow.c9
            have HX3 := hid hX3
            have HROW := hid hrow
            clear hown hgrow hnw hrow hX3 hi hz0 hz1 hz2
            go_wp2_with fail
            go_roundw
            case rel =>
              refine ⟨k + 1, a2, c2, L ++ [(xs[k].bare, ([.int .i64 q.op, .int .u64 q.set.a, .int .u64 q.set.b, .int .u64 q.set.c, .int .u64 q.set.d, .int .i64 q.lo, .int .i64 q.hi, .int .i64 q.gr, .slice ad' m' cap''] : List Value))], by omega, by go_num, ⟨by simp [HL.out.1], by rw [List.map_append, HL.out.2, List.take_add_one, List.getElem?_eq_getElem hlt, List.map_append]; rfl⟩, ?_, HROW.out.set 8 _⟩
              exact ⟨HX3.out.1.but (M := w.heap.size + 2) ((But.refl _ _).setCell (.inl (by simp)) _) (fun g hg => by have := (HX3.out.1.lt g hg).1; omega) (by omega), HX3.out.2.1.other (by omega) _ _, HX3.out.2.2.1.other (by omega) _ _, HX3.out.2.2.2.setCell (by show w.heap.size ≤ w.heap.size + 2; omega) _⟩
            case measure => simp [intOf]; omega
          · obtain rfl : k = xs.length := by omega
            have q2 := HX.out.1.2.2.1.c9
            have z2 := HX.out.1.2.2.1.lt
            have hLm : L.map Prod.fst = xs.map Re.bare := by rw [HL.out.2, List.take_length]
            go_wp2_with fail
            have hT := HX.out.1.1.node (fun _ h => h) p HWF.out
            rw [hLm] at hT
            have hb := below9 HX.out.1.2.2.2 (by omega : w.heap.size ≤ w.heap.size + 1) (.int .i64 p.op) (.int .u64 p.set.a) (.int .u64 p.set.b) (.int .u64 p.set.c) (.int .u64 p.set.d) (.int .i64 p.lo) (.int .i64 p.hi) (.int .i64 p.gr) (.slice a xs.length c)
            refine ret_row 2 28 rfl (w.heap.size + 1) rfl (p.cells (.slice a xs.length c)) (CellsAt.of_row (T := 28) (HX.out.1.2.2.1.set9 _ _ _ _ _ _ _ _ _)) _ Try.underlying28 rfl (size_relen rfl) rfl ?_
            refine ⟨_, rfl, ?_, hb⟩
            rw [e1.out]
            refine (hT.but (Bs := [w.heap.size + 1]) (But.set9 (But.refl _ wr) (.inl (by simp)) (.int .i64 p.op) (.int .u64 p.set.a) (.int .u64 p.set.b) (.int .u64 p.set.c) (.int .u64 p.set.d) (.int .i64 p.lo) (.int .i64 p.hi) (.int .i64 p.gr) (.slice a xs.length c)) (fun i hi => by simp; omega)).mono (fun i hi => by omega)
end Go.Proofs.Ytnlaffhkcdfkjaa
