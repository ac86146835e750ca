/- The reference of the parses: spans without groups, anchors, back references. -/
import Derived.Test.YthnpbopnpdlmnaaB08
import Derived.Deep.Cut
namespace Go.Proofs.Ythnpbopnpdlmnaa
open Go.RowKit
attribute [local go_sem] gives givesUpon

theorem ext_list9 (s : ByteArray) (i k : Nat) : (s.extract i k).toList = (s.data.toList.drop i).take (k - i) := by
  rw [ByteArray.toList_eq, ByteArray.data_extract, Array.toList_extract]

theorem OwnSp.keep {w w' : World} {base : Nat} {v : Value} {l : Spans} (h : OwnSp w base v l) (hk : ∀ g, v.ownBlock = some g → w'.heap[g]? = w.heap[g]?) : OwnSp w' base v l := by
  obtain ⟨h0, h1, h2⟩ := h
  refine ⟨h0, h1, ?_⟩
  rcases h2 with h2 | ⟨g, cap, cur, hv, hg, hcur, hr⟩
  · exact .inl h2
  · exact .inr ⟨g, cap, cur, hv, hg, (hk g (by rw [hv]; rfl)).trans hcur, hr⟩
set_option maxRecDepth 100000 in
set_option maxHeartbeats 8000000 in
theorem rcleared_any (wb : World) (N : Nat) (t : Re) (w : World) (cs : List Value) (sv : Value) (sp : Spans) (hIn : t.In wb cs) (hok : t.ok N) (hbw : Below wb.heap.size wb w) (hsp : SpQ w sv sp) (hl : sp.length ≤ 9) :
    Calls Try.prog 98 #[.agg cs.toArray, sv] w fun e w' => ∃ a c, e = .returned (.slice a sp.length c) ∧ Below w.heap.size w w' ∧ SpQ w' (.slice a sp.length c) (unset sp (withinOf t)) := by
  have hpos := within_pos t hok
  have HIH := hid (fun (x : World) (g : Nat) (hx : Below wb.heap.size wb x) => rinner_any wb N g t x cs hIn hok hx)
  cases t with
  | mk p xs =>
  rw [Re.In] at hIn
  obtain ⟨ad, cap, rfl, -⟩ := hIn
  simp only [Pay.cells] at HIH ⊢
  obtain ⟨sa, sc, rfl⟩ := hsp.form
  obtain ⟨n, hnn⟩ : ∃ n, n = sp.length := ⟨_, rfl⟩
  have hn9 : n ≤ 9 := by omega
  have HNN := hid hnn
  rw [← hnn] at hsp ⊢
  have HB := hid ((Below.refl w.heap.size w).alloc (Nat.le_refl _) (.cells #[.int .i64 p.op, .int .u64 p.set.a, .int .u64 p.set.b, .int .u64 p.set.c, .int .u64 p.set.d, .int .i64 p.lo, .int .i64 p.hi, .int .i64 p.gr, .slice ad xs.length cap] 28))
  have HS := hid (hsp.below HB.out)
  have HBW := hid hbw
  have HRW : Hid (Row (w.alloc (.cells #[.int .i64 p.op, .int .u64 p.set.a, .int .u64 p.set.b, .int .u64 p.set.c, .int .u64 p.set.d, .int .i64 p.lo, .int .i64 p.hi, .int .i64 p.gr, .slice ad xs.length cap] 28)) w.heap.size [.int .i64 p.op, .int .u64 p.set.a, .int .u64 p.set.b, .int .u64 p.set.c, .int .u64 p.set.d, .int .i64 p.lo, .int .i64 p.hi, .int .i64 p.gr, .slice ad xs.length cap] 28) := Row.new rfl
  obtain ⟨gs, hgs⟩ : ∃ gs, gs = withinOf (.mk p xs) := ⟨_, rfl⟩
  rw [← hgs] at HIH hpos ⊢
  have HPOS := hid hpos
  have hz : ((w.alloc (.cells #[.int .i64 p.op, .int .u64 p.set.a, .int .u64 p.set.b, .int .u64 p.set.c, .int .u64 p.set.d, .int .i64 p.lo, .int .i64 p.hi, .int .i64 p.gr, .slice ad xs.length cap] 28))).heap.size = w.heap.size + 1 := by simp
  clear hsp hl hnn hbw hok hpos hgs
  go_enter Try.func98, Try.ntmps98
  go_wp2_with fail
  go_loopw [5, 6] (fun v5 v6 wr => ∃ (j : Nat) (a : Option Addr) (m c : Nat), v5 = .slice a m c ∧ v6 = .int .i64 j ∧ j ≤ n ∧ Hid (m = j ∧ OwnSp wr (w.heap.size + 1) (.slice a m c) ((unset sp gs).take j) ∧ Row wr w.heap.size [.int .i64 p.op, .int .u64 p.set.a, .int .u64 p.set.b, .int .u64 p.set.c, .int .u64 p.set.d, .int .i64 p.lo, .int .i64 p.hi, .int .i64 p.gr, .slice ad xs.length cap] 28 ∧ Below (w.heap.size + 1) (w.alloc (.cells #[.int .i64 p.op, .int .u64 p.set.a, .int .u64 p.set.b, .int .u64 p.set.c, .int .u64 p.set.d, .int .i64 p.lo, .int .i64 p.hi, .int .i64 p.gr, .slice ad xs.length cap] 28)) wr)) (fun _ v6 _ => n - (intOf v6).toNat)
  case atStart => exact ⟨0, none, 0, 0, rfl, rfl, Nat.zero_le _, rfl, OwnSp.nil _ _, HRW.out, Below.refl _ _⟩
  case round =>
    obtain ⟨j, a, m, c, rfl, rfl, hj, HX⟩ := hrel
    have q1 := HX.out.2.2.1.c9
    have qlt := HX.out.2.2.1.lt
    by_cases hlt : j < n
    · have hltI : (j : Int) < (n : Int) := by omega
      obtain ⟨h0, h1, hrw, h2⟩ := HX.out
      obtain ⟨b, cc, x1, x2, hq, ev, hb, -, p0, p1⟩ := (HS.out.of (fun _ _ hr => hr.below h2 (by have := hr.lt; omega)) : SpQ wr _ sp).get (k := j) (by have := HNN.out; omega)
      injection ev with e1 e2 e3
      subst e1; subst e3
      clear e2
      have HO := hid (⟨h0, h1, hrw, h2⟩ : _ ∧ _ ∧ _ ∧ _)
      have hsz := h2.size
      have HT : Hid (∀ y, y = (if j + 1 ∈ gs then ((-1 : Int), (-1 : Int)) else (x1, x2)) → (unset sp gs).take (j + 1) = (unset sp gs).take j ++ [y]) := fun y hy => by
        rw [List.take_add_one, unset_get gs sp j _ (fun g hg => (HPOS.out g hg).1) hq, hy]; rfl
      have hul : Hid ((unset sp gs).length = n) := by show _ = _; rw [unset_len, HNN.out]
      have hwj : IntKind.i64.wrap ((j : Int) + 1) = ((j + 1 : Nat) : Int) := by rw [IntKind.wrap_i64]; omega
      clear h0 h1 h2 hq hrw
      go_wp2_with fail
      refine (HIH.out _ (j + 1) (HBW.out.trans ((HB.out.trans ((HO.out.2.2.2.mono (by omega)).trans (((Below.refl _ _).alloc (Nat.le_refl _) _).mono (by simp at hsz; omega)))).mono HBW.out.size))).mono ?_
      rintro e w2 ⟨rfl, hb2⟩
      have hxr : Row (wr.alloc (.cells #[.int .i64 x1, .int .i64 x2] 47)) wr.heap.size [.int .i64 x1, .int .i64 x2] 47 := Row.new rfl
      have hxr2 := hxr.below hb2 (by simp)
      have hsz2 : wr.heap.size + 1 ≤ w2.heap.size := by have := hb2.size; simp at this; exact this
      have HO2 := hid (⟨HO.out.1, HO.out.2.1.below (((Below.refl _ _).alloc (Nat.le_refl _) _).trans (hb2.mono (by simp))), HO.out.2.2.1.below (((Below.refl wr.heap.size wr).alloc (Nat.le_refl _) (.cells #[.int .i64 x1, .int .i64 x2] 47)).trans (hb2.mono (by simp))) HO.out.2.2.1.lt, HO.out.2.2.2.trans ((((Below.refl _ _).alloc (Nat.le_refl _) _).trans (hb2.mono (by simp))).mono (by simp at hsz; omega))⟩ : m = j ∧ OwnSp w2 (w.heap.size + 1) (.slice a m c) ((unset sp gs).take j) ∧ Row w2 w.heap.size [.int .i64 p.op, .int .u64 p.set.a, .int .u64 p.set.b, .int .u64 p.set.c, .int .u64 p.set.d, .int .i64 p.lo, .int .i64 p.hi, .int .i64 p.gr, .slice ad xs.length cap] 28 ∧ Below (w.heap.size + 1) (w.alloc (.cells #[.int .i64 p.op, .int .u64 p.set.a, .int .u64 p.set.b, .int .u64 p.set.c, .int .u64 p.set.d, .int .i64 p.lo, .int .i64 p.hi, .int .i64 p.gr, .slice ad xs.length cap] 28)) w2)
      have HXR := hid hxr2
      have r0 := hxr2.cell 0
      have r1 := hxr2.cell 1
      have f0 := hxr2.free 0
      have f1 := hxr2.free 1
      clear hb2 hxr hxr2 p0 p1 q1
      have hsw : w.heap.size + 1 ≤ wr.heap.size := by simp at hsz; omega
      by_cases hm : j + 1 ∈ gs
      · rw [decide_eq_true hm]
        have HM := hid hm
        clear hm
        go_upto_region 8 with fail
        have hy : Row ((w2.setCell ⟨wr.heap.size, 0, none⟩ (.int .i64 (-1))).setCell ⟨wr.heap.size, 1, none⟩ (.int .i64 (-1))) wr.heap.size [.int .i64 (-1), .int .i64 (-1)] 47 := (HXR.out.set 0 _).set 1 _
        obtain ⟨y, hye⟩ : ∃ y, y = ((w2.setCell ⟨wr.heap.size, 0, none⟩ (.int .i64 (-1))).setCell ⟨wr.heap.size, 1, none⟩ (.int .i64 (-1))) := ⟨_, rfl⟩
        rw [← hye] at hy ⊢
        have HYE := hid hye
        clear r0 r1 f0 f1 hye
        have hb3 : But [wr.heap.size] w2 y := by
          rw [HYE.out]
          exact ((But.refl _ _).setCell (p := ⟨wr.heap.size, 0, none⟩) (.inl (by simp)) _).setCell (p := ⟨wr.heap.size, 1, none⟩) (.inl (by simp)) _
        have HY := hid (⟨HO2.out.1, HO2.out.2.1.keep (fun g hg => hb3.block g (by have := (HO2.out.2.1.lt g hg).2; exact this) (by have := (HO.out.2.1.lt g hg).2; simp; omega)), HO2.out.2.2.1.but hb3 (by simp; omega), HO2.out.2.2.2.trans (hb3.below (by simp at hsz; omega) (by simp; omega))⟩ : m = j ∧ OwnSp y (w.heap.size + 1) (.slice a m c) ((unset sp gs).take j) ∧ Row y w.heap.size [.int .i64 p.op, .int .u64 p.set.a, .int .u64 p.set.b, .int .u64 p.set.c, .int .u64 p.set.d, .int .i64 p.lo, .int .i64 p.hi, .int .i64 p.gr, .slice ad xs.length cap] 28 ∧ Below (w.heap.size + 1) (w.alloc (.cells #[.int .i64 p.op, .int .u64 p.set.a, .int .u64 p.set.b, .int .u64 p.set.c, .int .u64 p.set.d, .int .i64 p.lo, .int .i64 p.hi, .int .i64 p.gr, .slice ad xs.length cap] 28)) y)
        have hsy := hb3.size
        clear hb3 HO HO2
        have s0 := hy.cell 0
        have s1 := hy.cell 1
        clear hy
        go_wp2_with (at_builtin; refine wpList_append_sp rfl _ _ rfl (w.heap.size + 1) _ ((unset sp gs).take j) [(-1, -1)] _ rfl ?c0 rfl (SpQ.lit (Row.new rfl)) (by simp) ?c2 ?c3 ?_)
        case c0 => exact HY.out.2.1.below ((Below.refl _ _).alloc (Nat.le_refl _) _)
        case c2 => have := hul.out; simp; omega
        case c3 => simp; omega
        intro a2 n2 c2 w3 hn2 hown hgrow hnw
        have HZ : Hid (n2 = j + 1 ∧ OwnSp w3 (w.heap.size + 1) (.slice a2 n2 c2) ((unset sp gs).take (j + 1)) ∧ Row w3 w.heap.size [.int .i64 p.op, .int .u64 p.set.a, .int .u64 p.set.b, .int .u64 p.set.c, .int .u64 p.set.d, .int .i64 p.lo, .int .i64 p.hi, .int .i64 p.gr, .slice ad xs.length cap] 28 ∧ Below (w.heap.size + 1) (w.alloc (.cells #[.int .i64 p.op, .int .u64 p.set.a, .int .u64 p.set.b, .int .u64 p.set.c, .int .u64 p.set.d, .int .i64 p.lo, .int .i64 p.hi, .int .i64 p.gr, .slice ad xs.length cap] 28)) w3) := by
          have hyy := HT.out (-1, -1) (by rw [if_pos HM.out])
          refine ⟨?_, by rw [hyy]; exact hown, ?_, (HY.out.2.2.2.alloc (by omega) _).grown hgrow (by simp; omega) fun g hg => (HY.out.2.1.lt g hg).1⟩
          · have := hul.out
            rw [hn2]; simp; omega
          · exact (HY.out.2.2.1.alloc _).grownOwn (World.ownsRow.alloc HY.out.2.1.2 _) (by decide) hgrow
        clear hown hgrow hnw hn2 s0 s1
        go_wp2_with fail
        refine ⟨⟨j + 1, a2, n2, c2, rfl, by go_num, by omega, HZ.out⟩, ?_⟩
        simp [intOf] <;> omega
      · rw [decide_eq_false hm]
        have HM := hid hm
        clear hm
        go_upto_region 8 with fail
        have hy := HXR.out
        obtain ⟨y, hye⟩ : ∃ y, y = w2 := ⟨_, rfl⟩
        rw [← hye] at hy ⊢
        have HYE := hid hye
        clear r0 r1 f0 f1 hye
        have hb3 : But [wr.heap.size] w2 y := by
          rw [HYE.out]
          exact But.refl _ _
        have HY := hid (⟨HO2.out.1, HO2.out.2.1.keep (fun g hg => hb3.block g (by have := (HO2.out.2.1.lt g hg).2; exact this) (by have := (HO.out.2.1.lt g hg).2; simp; omega)), HO2.out.2.2.1.but hb3 (by simp; omega), HO2.out.2.2.2.trans (hb3.below (by simp at hsz; omega) (by simp; omega))⟩ : m = j ∧ OwnSp y (w.heap.size + 1) (.slice a m c) ((unset sp gs).take j) ∧ Row y w.heap.size [.int .i64 p.op, .int .u64 p.set.a, .int .u64 p.set.b, .int .u64 p.set.c, .int .u64 p.set.d, .int .i64 p.lo, .int .i64 p.hi, .int .i64 p.gr, .slice ad xs.length cap] 28 ∧ Below (w.heap.size + 1) (w.alloc (.cells #[.int .i64 p.op, .int .u64 p.set.a, .int .u64 p.set.b, .int .u64 p.set.c, .int .u64 p.set.d, .int .i64 p.lo, .int .i64 p.hi, .int .i64 p.gr, .slice ad xs.length cap] 28)) y)
        have hsy := hb3.size
        clear hb3 HO HO2
        have s0 := hy.cell 0
        have s1 := hy.cell 1
        clear hy
        go_wp2_with (at_builtin; refine wpList_append_sp rfl _ _ rfl (w.heap.size + 1) _ ((unset sp gs).take j) [(x1, x2)] _ rfl ?c0 rfl (SpQ.lit (Row.new rfl)) (by simp) ?c2 ?c3 ?_)
        case c0 => exact HY.out.2.1.below ((Below.refl _ _).alloc (Nat.le_refl _) _)
        case c2 => have := hul.out; simp; omega
        case c3 => simp; omega
        intro a2 n2 c2 w3 hn2 hown hgrow hnw
        have HZ : Hid (n2 = j + 1 ∧ OwnSp w3 (w.heap.size + 1) (.slice a2 n2 c2) ((unset sp gs).take (j + 1)) ∧ Row w3 w.heap.size [.int .i64 p.op, .int .u64 p.set.a, .int .u64 p.set.b, .int .u64 p.set.c, .int .u64 p.set.d, .int .i64 p.lo, .int .i64 p.hi, .int .i64 p.gr, .slice ad xs.length cap] 28 ∧ Below (w.heap.size + 1) (w.alloc (.cells #[.int .i64 p.op, .int .u64 p.set.a, .int .u64 p.set.b, .int .u64 p.set.c, .int .u64 p.set.d, .int .i64 p.lo, .int .i64 p.hi, .int .i64 p.gr, .slice ad xs.length cap] 28)) w3) := by
          have hyy := HT.out (x1, x2) (by rw [if_neg HM.out])
          refine ⟨?_, by rw [hyy]; exact hown, ?_, (HY.out.2.2.2.alloc (by omega) _).grown hgrow (by simp; omega) fun g hg => (HY.out.2.1.lt g hg).1⟩
          · have := hul.out
            rw [hn2]; simp; omega
          · exact (HY.out.2.2.1.alloc _).grownOwn (World.ownsRow.alloc HY.out.2.1.2 _) (by decide) hgrow
        clear hown hgrow hnw hn2 s0 s1
        go_wp2_with fail
        refine ⟨⟨j + 1, a2, n2, c2, rfl, by go_num, by omega, HZ.out⟩, ?_⟩
        simp [intOf] <;> omega
    · obtain rfl : j = n := by omega
      have hltI : ¬ (j : Int) < (j : Int) := by omega
      go_wp2_with fail
      go_ret
      obtain ⟨h0, h1, h2, h3⟩ := HX.out
      subst h0
      rw [List.take_of_length_le (by rw [unset_len]; exact Nat.le_of_eq HNN.out.symm)] at h1
      exact ⟨a, c, rfl, HB.out.trans (h3.mono (by omega)), h1.q⟩
end Go.Proofs.Ythnpbopnpdlmnaa
