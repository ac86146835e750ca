/- The program of layer 9: merging one element behind a sorted part. -/
import Derived.Test.YtkinnfejgpnddaaDoorK05
import Derived.Deep.Cut
namespace Go.Proofs.YtkinnfejgpnddaaDoor
open Go.RowKit
attribute [local go_sem] gives givesUpon

/-- Where one element goes among those ahead of it. -/
def SeekR (i j lo hi : Nat) (L : List Zel) (x : Zel) : Prop := (i = lo ∨ ∃ y, 0 < i ∧ L[i - 1]? = some y ∧ zkey x ≤ zkey y) ∧ (j = hi ∨ ∃ y, L[j]? = some y ∧ zkey y < zkey x)
set_option maxRecDepth 100000 in
set_option maxHeartbeats 32000000 in
theorem pmerge_right (w : World) (b n c : Nat) (more : List Value) (X A Z : List Zel) (x : Zel) (h : SrtAt w b n more (X ++ A ++ [x] ++ Z) w) (hA : 2 ≤ A.length) (hd : Desc zkey A) (hn : n ≤ 200000) (hk : ∀ z, z ∈ X ++ A ++ [x] ++ Z → z.1.1 ≤ 1000000) :
    Calls Tryd.prog 88 #[.slice (some ⟨b, 0, none⟩) n c, .int .i64 X.length, .int .i64 ((X.length + A.length : Nat) : Int), .int .i64 ((X.length + A.length + 1 : Nat) : Int), .func (.func 80) #[] #[]] w (SrtPost w b n more X (A ++ [x]) Z) := by
  obtain ⟨a, ha⟩ : ∃ a, a = X.length := ⟨_, rfl⟩
  obtain ⟨m, hm⟩ : ∃ m, m = X.length + A.length := ⟨_, rfl⟩
  obtain ⟨e, he⟩ : ∃ e, e = X.length + A.length + 1 := ⟨_, rfl⟩
  rw [← he, ← hm, ← ha]
  have hen : e ≤ n := by have := h.2.2.1; simp at this; omega
  have hma : a + 2 ≤ m := by omega
  have hme : e = m + 1 := by omega
  have h1 : (wrap64 ((m : Int) - (a : Int)) == 1) = false := by
    have : wrap64 ((m : Int) - (a : Int)) ≠ 1 := by unfold wrap64; omega
    exact beq_eq_false_iff_ne.2 this
  have h2 : IntKind.i64.wrap ((e : Int) - (m : Int)) = 1 := by rw [IntKind.wrap_i64]; omega
  have HM := hid (⟨ha, hm, he, hme⟩ : _ ∧ _ ∧ _ ∧ _)
  obtain ⟨L, hL⟩ : ∃ L, L = X ++ A ++ [x] ++ Z := ⟨_, rfl⟩
  rw [← hL] at h hk
  have HL := hid hL
  have HH := hid h
  have HK := hid hk
  have HD := hid hd
  have hx6 : x.1.1 ≤ 1000000 := hk x (by rw [hL]; simp)
  have HXA : Hid (L[m]? = some x) := by show _ = _; rw [hL, hm, List.append_assoc, ← List.length_append, List.getElem?_append_right (Nat.le_refl _)]; simp
  have HLB : Hid (∀ t, t < A.length → L[a + t]? = A[t]?) := fun t ht => by
    rw [hL, ha, List.append_assoc, List.append_assoc, List.getElem?_append_right (by omega), List.getElem?_append_left (by omega)]
    congr 1
    omega
  have hln : L.length = n := h.2.2.1
  have HLN := hid hln
  obtain ⟨⟨x1, xs⟩, xa, xn, xc⟩ := x
  dsimp only at hx6
  clear h hk hd ha hm he hme hL hln hA
  go_enter Tryd.func88, Tryd.ntmps88
  go_wp2_with fail
  go_loopw [14, 15] (fun v14 v15 wr => ∃ (i j : Nat), v14 = .int .i64 i ∧ v15 = .int .i64 j ∧ a ≤ i ∧ i ≤ j ∧ j ≤ m ∧ Hid (SrtAt w b n more L wr ∧ SeekR i j a m L ((x1, xs), xa, xn, xc))) (fun v14 v15 _ => (intOf v15).toNat - (intOf v14).toNat)
  case atStart => exact ⟨a, m, rfl, rfl, by omega, by omega, by omega, HH.out, .inl rfl, .inl rfl⟩
  case round =>
    obtain ⟨i, j, rfl, rfl, hmi, hij, hje, HX⟩ := hrel
    by_cases hlt : i < j
    · have hltI : (i : Int) < (j : Int) := by omega
      have hmn : m < n := by have := HM.out; omega
      go_upto_region 17 with fail
      have hhf : ((i : Int) + (j : Int)) / 2 = (((i + j) / 2 : Nat) : Int) := by omega
      rw [hhf]
      clear hhf
      obtain ⟨d, hd⟩ : ∃ d, d = (i + j) / 2 := ⟨_, rfl⟩
      rw [← hd]
      have hid1 : i ≤ d := by omega
      have hdj : d < j := by omega
      have hdn : d < n := by omega
      have hdnI : (d : Int) < (n : Int) := by omega
      have hmnI : (m : Int) < (n : Int) := by omega
      clear hd
      have hdl : d < L.length := by have := HLN.out; omega
      have HYD : Hid (L[d]? = some L[d]) := List.getElem?_eq_getElem hdl
      have hy6 : L[d].1.1 ≤ 1000000 := HK.out _ (List.getElem_mem hdl)
      generalize L[d] = y at HYD hy6
      obtain ⟨⟨y1, ys⟩, ya, yn, yc⟩ := y
      dsimp only at hy6
      have q0 := HX.out.1.cells HXA.out
      have q1 := HX.out.1.cells HYD.out
      have HC := hid (fun (x : World) (hx : Grow wr.drew x) => (⟨(HX.out.1.later (grow_below hx)).cells HXA.out, (HX.out.1.later (grow_below hx)).cells HYD.out⟩ : _ ∧ _))
      dsimp only at HC q0 q1
      refine wp_region_inv 12 (Grow) (by kernel_rfl) (by kernel_rfl) (Grow.refl) (fun _ _ _ => Grow.trans) ?_
      simp only [fill, dstOf, Act.put, List.take_succ_cons, List.take_zero, List.getElem?_toArray, List.getElem?_cons_zero, List.getElem?_cons_succ, Option.bind_some, List.setIfInBounds_toArray, List.set_cons_zero, List.set_cons_succ]
      refine Plan.det 1 rfl (Grow.refl) ?_
      apply Exists.intro
      refine ⟨fun vs x hR hF K hK => ?_, ?_⟩
      · clear hF
        go_simp
        exact hK _ _ (Grow.refl _) rfl
      refine Plan.det 2 rfl (Grow.refl) ?_
      apply Exists.intro
      refine ⟨fun vs x hR hF K hK => ?_, ?_⟩
      · clear hF
        go_simp
        exact hK _ _ (Grow.refl _) rfl
      refine Plan.det 3 rfl (Grow.refl) ?_
      apply Exists.intro
      refine ⟨fun vs x hR hF K hK => ?_, ?_⟩
      · clear hF
        go_simp
        exact hK _ _ (Grow.refl _) rfl
      refine Plan.det 4 rfl (Grow.refl) ?_
      apply Exists.intro
      refine ⟨fun vs x hR hF K hK => ?_, ?_⟩
      · have f1 := hF 1 _ _ rfl rfl; have f2 := hF 0 _ _ rfl rfl; clear hF
        go_simp
        exact hK _ _ (Grow.refl _) rfl
      refine Plan.det 5 rfl (Grow.refl) ?_
      apply Exists.intro
      refine ⟨fun vs x hR hF K hK => ?_, ?_⟩
      · have f3 := hF 0 _ _ rfl rfl; have hc := HC.out x hR; clear hF
        go_simp
        exact hK _ _ (Grow.refl _) rfl
      refine Plan.det 6 rfl (Grow.refl) ?_
      apply Exists.intro
      refine ⟨fun vs x hR hF K hK => ?_, ?_⟩
      · clear hF
        go_simp
        exact hK _ _ (Grow.refl _) rfl
      refine Plan.det 7 rfl (Grow.refl) ?_
      apply Exists.intro
      refine ⟨fun vs x hR hF K hK => ?_, ?_⟩
      · clear hF
        go_simp
        exact hK _ _ (Grow.refl _) rfl
      refine Plan.det 8 rfl (Grow.refl) ?_
      apply Exists.intro
      refine ⟨fun vs x hR hF K hK => ?_, ?_⟩
      · have f5 := hF 1 _ _ rfl rfl; have f6 := hF 0 _ _ rfl rfl; clear hF
        go_simp
        exact hK _ _ (Grow.refl _) rfl
      refine Plan.det 9 rfl (Grow.refl) ?_
      apply Exists.intro
      refine ⟨fun vs x hR hF K hK => ?_, ?_⟩
      · have f7 := hF 0 _ _ rfl rfl; have hc := HC.out x hR; clear hF
        go_simp
        exact hK _ _ (Grow.refl _) rfl
      refine Plan.det 10 rfl (Grow.refl) ?_
      apply Exists.intro
      refine ⟨fun vs x hR hF K hK => ?_, ?_⟩
      · have f0 := hF 8 _ _ rfl rfl; have f4 := hF 4 _ _ rfl rfl; have f8 := hF 0 _ _ rfl rfl; clear hF
        go_simp
        refine (pcmp_any x x1 y1 xa ya xn yn xc yc hx6 hy6).mono ?_
        rintro e x1 ⟨rfl, hbe⟩
        exact ⟨_, rfl, hK _ _ hbe rfl⟩
      refine Plan.det 11 rfl (Grow.refl) ?_
      apply Exists.intro
      refine ⟨fun vs x hR hF K hK => ?_, ?_⟩
      · have f9 := hF 0 _ _ rfl rfl; clear hF
        go_simp
        exact hK _ _ (Grow.refl _) rfl
      refine Plan.det 12 rfl (Grow.refl) ?_
      apply Exists.intro
      refine ⟨fun vs x hR hF K hK => ?_, ?_⟩
      · have f10 := hF 0 _ _ rfl rfl; clear hF
        go_simp
        exact hK _ _ (Grow.refl _) rfl
      refine Plan.nil (fun vs x hR hF => ?_)
      have f0 := hF 11 _ _ rfl; have f1 := hF 10 _ _ rfl; have f2 := hF 9 _ _ rfl; have f3 := hF 8 _ _ rfl; have f4 := hF 7 _ _ rfl; have f5 := hF 6 _ _ rfl; have f6 := hF 5 _ _ rfl; have f7 := hF 4 _ _ rfl; have f8 := hF 3 _ _ rfl; have f9 := hF 2 _ _ rfl; have f10 := hF 1 _ _ rfl; have f11 := hF 0 _ _ rfl
      clear hF
      simp only [f0, f1, f2, f3, f4, f5, f6, f7, f8, f9, f10, f11]
      clear f0 f1 f2 f3 f4 f5 f6 f7 f8 f9 f10 f11
      simp only [List.drop_succ_cons, List.drop_zero]
      have HX2 := hid (HX.out.1.later (grow_below hR))
      have HSK := hid HX.out.2
      clear HC q0 q1 hR HX
      by_cases hc : (y1 : Int) - (x1 : Int) < 0
      · have HN : Hid (SrtAt w b n more L x ∧ SeekR i d a m L ((x1, xs), xa, xn, xc)) := ⟨HX2.out, HSK.out.1, .inr ⟨_, HYD.out, by show (y1 : Int) < x1; omega⟩⟩
        clear HX2 HSK
        rw [decide_eq_true hc]
        go_wp2_with fail
        refine ⟨⟨i, d, rfl, rfl, by omega, by omega, by omega, HN.out⟩, ?_⟩
        simp [intOf] <;> omega
      · have HN : Hid (SrtAt w b n more L x ∧ SeekR (d + 1) j a m L ((x1, xs), xa, xn, xc)) := ⟨HX2.out, .inr ⟨_, by omega, HYD.out, by show (x1 : Int) ≤ y1; omega⟩, HSK.out.2⟩
        clear HX2 HSK
        rw [decide_eq_false hc]
        go_wp2_with fail
        refine ⟨⟨d + 1, j, by go_num, rfl, by omega, by omega, by omega, HN.out⟩, ?_⟩
        simp [intOf] <;> omega
    · obtain rfl : i = j := by omega
      have hltI : ¬ (i : Int) < (i : Int) := by omega
      have HSK := hid HX.out.2
      have HST : Hid (SrtAt w b n more (insL X (A.take (m - a)) ((x1, xs), xa, xn, xc) (A.drop (m - a)) [] Z) wr) := by
        have hma2 : m - a = A.length := by have := HM.out; omega
        have e0 : insL X (A.take (m - a)) ((x1, xs), xa, xn, xc) (A.drop (m - a)) [] Z = L := by rw [HL.out, hma2]; unfold insL; simp
        unfold Hid
        rw [e0]; exact HX.out.1
      clear HX HH
      go_wp2_with fail
      go_loopw [17] (fun v17 wr => ∃ (t : Nat), v17 = .int .i64 ((a + t : Nat) : Int) ∧ i ≤ a + t ∧ t ≤ m - a ∧ Hid (SrtAt w b n more (insL X (A.take t) ((x1, xs), xa, xn, xc) (A.drop t) [] Z) wr)) (fun v17 _ => (intOf v17).toNat)
      case atStart => exact ⟨m - a, by rw [show a + (m - a) = m by omega], by omega, by omega, HST.out⟩
      case round =>
        obtain ⟨t, rfl, hit, hti, HY⟩ := hrel
        by_cases hlt : i < a + t
        · obtain ⟨s, rfl⟩ : ∃ s, t = s + 1 := ⟨t - 1, by omega⟩
          have hsb : s < A.length := by have := HM.out; omega
          have hta : a + s + 1 < n := by have := HM.out; omega
          have HYD : Hid (A[s]? = some A[s]) := List.getElem?_eq_getElem hsb
          generalize A[s] = y at HYD
          have hdr : y :: A.drop (s + 1) = A.drop s := by
            rw [List.drop_eq_getElem_cons hsb]
            congr 1
            exact (Option.some.inj ((List.getElem?_eq_getElem hsb).symm.trans HYD.out)).symm
          have htk : A.take (s + 1) = A.take s ++ [y] := by rw [List.take_add_one, HYD.out]; rfl
          have htl : (A.take s).length = s := by rw [List.length_take]; omega
          have hst0 := HY.out
          rw [htk] at hst0
          have hat := insL_at X (A.take s ++ [y]) ((x1, xs), xa, xn, xc) (A.drop (s + 1)) [] Z
          have hnx := insL_prev X (A.take s) y ((x1, xs), xa, xn, xc) (A.drop (s + 1)) [] Z
          have hsw := insL_swap X (A.take s) y ((x1, xs), xa, xn, xc) (A.drop (s + 1)) [] Z
          rw [List.length_append, htl, ← HM.out.1, ← Nat.add_assoc] at hat
          rw [htl, ← HM.out.1] at hnx hsw
          rw [hdr] at hsw
          have hput := (hst0.put y (k := a + s + 1) (by omega)).put ((x1, xs), xa, xn, xc) (k := a + s) (by omega)
          rw [hsw] at hput
          have q0 := hst0.cells hat
          have q1 := hst0.cells hnx
          obtain ⟨⟨y1, ys⟩, ya, yn, yc⟩ := y
          dsimp only [List.length_cons, List.length_nil] at q0 q1 hput
          have HPUT := hid hput
          obtain ⟨k, hk⟩ : ∃ k, k = a + s := ⟨_, rfl⟩
          have f0 := hst0.free (k * 2)
          have f1 := hst0.free (k * 2 + 1)
          have f2 := hst0.free ((k + 1) * 2)
          have f3 := hst0.free ((k + 1) * 2 + 1)
          rw [show a + (s + 1) = k + 1 by omega]
          rw [← hk] at q0 q1 HPUT hta
          have hkn : (k : Int) < (n : Int) := by omega
          have hkn1 : 0 ≤ (k : Int) + 1 ∧ (k : Int) + 1 < (n : Int) := by omega
          have hltI : (i : Int) < (k : Int) + 1 := by omega
          have hwk : IntKind.i64.wrap (k : Int) = (k : Int) := by rw [IntKind.wrap_i64]; omega
          have hik : i ≤ k := by omega
          have hsm : s ≤ m - a := by omega
          have HKK := hid hk
          clear hdr htk htl hat hnx hsw hput HY hk hst0
          go_wp2_with fail
          go_region
          all_goals
            go_wp2_with fail
            refine ⟨⟨s, by rw [HKK.out], by have := HKK.out; omega, by omega, HPUT.out.later ((Below.refl _ _).drew)⟩, ?_⟩
            simp [intOf] <;> omega
        · have hltI : ¬ (i : Int) < ((a + t : Nat) : Int) := by omega
          obtain ⟨hm1, hm2, hm3, hm4⟩ := HM.out
          have hti2 : t = i - a := by omega
          have hdd : Desc zkey (A.take t ++ A.drop t) := by rw [List.take_append_drop]; exact HD.out
          obtain ⟨hd2, hs2⟩ := insert_right (x := ((x1, xs), xa, xn, xc)) hdd (by
            rcases HSK.out.1 with h5 | ⟨y, h5, h6, h7⟩
            · left; rw [show t = 0 by omega]; rfl
            · by_cases h8 : i = a
              · left; rw [show t = 0 by omega]; rfl
              · right
                refine ⟨y, ?_, h7⟩
                have h9 := HLB.out (t - 1) (by omega)
                rw [show a + (t - 1) = i - 1 by omega, h6] at h9
                have := take_last h9.symm
                rwa [show t - 1 + 1 = t by omega] at this) (by
            rcases HSK.out.2 with h5 | ⟨y, h6, h7⟩
            · left; exact List.drop_of_length_le (by omega)
            · by_cases h8 : i = m
              · left; exact List.drop_of_length_le (by omega)
              · right
                refine ⟨y, ?_, h7⟩
                have h9 := HLB.out t (by omega)
                rw [show a + t = i by omega, h6] at h9
                exact drop_head h9.symm)
          have HF : Hid (SrtPost w b n more X (A ++ [((x1, xs), xa, xn, xc)]) Z (.returned (.tuple #[])) wr) := by
            refine ⟨rfl, _, ?_, hd2, ?_⟩
            · have e0 : X ++ (A.take t ++ ((x1, xs), xa, xn, xc) :: A.drop t) ++ Z = insL X (A.take t) ((x1, xs), xa, xn, xc) (A.drop t) [] Z := by unfold insL; simp
              rw [e0]; exact HY.out
            · rw [List.take_append_drop] at hs2; exact hs2
          clear hdd hd2 hs2 hm1 hm2 hm3 hm4 HY hti2
          go_wp2_with fail
          go_end0
          exact HF.out
end Go.Proofs.YtkinnfejgpnddaaDoor

/- The program of layer 9: merging two sorted parts of a row in place, in general. -/
namespace Go.Proofs.YtkinnfejgpnddaaDoor
open Go.RowKit
attribute [local go_sem] gives givesUpon

/-- Where the two parts are to be cut. -/
def SeekM (s r s0 r0 N : Nat) (L : List Zel) : Prop := (s = s0 ∨ ∃ x y, 0 < s ∧ L[s - 1]? = some x ∧ L[N - s]? = some y ∧ zkey y ≤ zkey x) ∧ (r = r0 ∨ ∃ x y, L[r]? = some x ∧ L[N - 1 - r]? = some y ∧ zkey x < zkey y)
theorem seekM_cut {L A B : List Zel} {a m e s s0 r0 N : Nat} (hA : m = a + A.length) (he : e = m + B.length) (HLA : ∀ t, t < A.length → L[a + t]? = A[t]?) (HLB : ∀ t, t < B.length → L[m + t]? = B[t]?) (hs : a ≤ s ∧ s ≤ m ∧ m + s ≤ N ∧ N ≤ e + s) (HS0 : s0 = a ∨ N = e + s0) (HR0 : r0 = m ∨ N = m + r0) (hsk : SeekM s s s0 r0 N L) :
    (A.take (s - a) = [] ∨ B.drop (N - s - m) = [] ∨ ∃ x y, (A.take (s - a)).getLast? = some x ∧ (B.drop (N - s - m)).head? = some y ∧ zkey y ≤ zkey x) ∧ (A.drop (s - a) = [] ∨ B.take (N - s - m) = [] ∨ ∃ x y, (A.drop (s - a)).head? = some x ∧ (B.take (N - s - m)).getLast? = some y ∧ zkey x < zkey y) := by
  constructor
  · by_cases h1 : s = a
    · left; rw [h1, Nat.sub_self]; rfl
    by_cases h2 : N = e + s
    · right; left; exact List.drop_of_length_le (by omega)
    rcases hsk.1 with h3 | ⟨x, y, h3, h4, h5, h6⟩
    · rcases HS0 with h | h <;> omega
    · right; right
      have k1 := HLA (s - a - 1) (by omega)
      rw [show a + (s - a - 1) = s - 1 by omega, h4] at k1
      have k2 := HLB (N - s - m) (by omega)
      rw [show m + (N - s - m) = N - s by omega, h5] at k2
      have k3 := take_last k1.symm
      rw [show s - a - 1 + 1 = s - a by omega] at k3
      exact ⟨x, y, k3, drop_head k2.symm, h6⟩
  · by_cases h1 : s = m
    · left; exact List.drop_of_length_le (by omega)
    by_cases h2 : N = m + s
    · right; left; rw [show N - s - m = 0 by omega]; rfl
    rcases hsk.2 with h3 | ⟨x, y, h4, h5, h6⟩
    · rcases HR0 with h | h <;> omega
    · right; right
      have k1 := HLA (s - a) (by omega)
      rw [show a + (s - a) = s by omega, h4] at k1
      have k2 := HLB (N - s - m - 1) (by omega)
      rw [show m + (N - s - m - 1) = N - 1 - s by omega, h5] at k2
      have k3 := take_last k2.symm
      rw [show N - s - m - 1 + 1 = N - s - m by omega] at k3
      exact ⟨x, y, drop_head k1.symm, k3, h6⟩
theorem mem_mid {α : Type} {k : α} {X u v p z Z : List α} (h : k ∈ X ++ u ++ p ++ ((v ++ z) ++ Z)) : k ∈ X ++ (u ++ v) ++ (p ++ z) ++ Z := by
  simp only [List.mem_append] at h ⊢
  rcases h with ((h | h) | h) | ((h | h) | h)
  · exact .inl (.inl (.inl h))
  · exact .inl (.inl (.inr (.inl h)))
  · exact .inl (.inr (.inl h))
  · exact .inl (.inl (.inr (.inr h)))
  · exact .inl (.inr (.inr h))
  · exact .inr h
/-- The contract of a merge of parts with at most f elements. -/
def MergeC (f : Nat) : Prop := ∀ (w : World) (b n c : Nat) (more : List Value) (X A B Z : List Zel), A.length + B.length ≤ f → SrtAt w b n more (X ++ A ++ B ++ Z) w → A ≠ [] → B ≠ [] → Desc zkey A → Desc zkey B → n ≤ 200000 → (∀ z, z ∈ X ++ A ++ B ++ Z → z.1.1 ≤ 1000000) →
    Calls Tryd.prog 88 #[.slice (some ⟨b, 0, none⟩) n c, .int .i64 X.length, .int .i64 ((X.length + A.length : Nat) : Int), .int .i64 ((X.length + A.length + B.length : Nat) : Int), .func (.func 80) #[] #[]] w (SrtPost w b n more X (A ++ B) Z)
set_option maxRecDepth 100000 in
set_option maxHeartbeats 32000000 in
theorem pmerge_gen (f : Nat) (IH : MergeC f) (w : World) (b n c : Nat) (more : List Value) (X A B Z : List Zel) (hf : A.length + B.length ≤ f + 1) (h : SrtAt w b n more (X ++ A ++ B ++ Z) w) (hA : 2 ≤ A.length) (hB : 2 ≤ B.length) (hda : Desc zkey A) (hdb : Desc zkey B) (hn : n ≤ 200000) (hk : ∀ z, z ∈ X ++ A ++ B ++ Z → z.1.1 ≤ 1000000) :
    Calls Tryd.prog 88 #[.slice (some ⟨b, 0, none⟩) n c, .int .i64 X.length, .int .i64 ((X.length + A.length : Nat) : Int), .int .i64 ((X.length + A.length + B.length : Nat) : Int), .func (.func 80) #[] #[]] w (SrtPost w b n more X (A ++ B) Z) := by
  obtain ⟨a, ha⟩ : ∃ a, a = X.length := ⟨_, rfl⟩
  obtain ⟨m, hm⟩ : ∃ m, m = X.length + A.length := ⟨_, rfl⟩
  obtain ⟨e, he⟩ : ∃ e, e = X.length + A.length + B.length := ⟨_, rfl⟩
  rw [← he, ← hm, ← ha]
  have hen : e ≤ n := by have := h.2.2.1; simp at this; omega
  have hma : a + 2 ≤ m := by omega
  have hme : m + 2 ≤ e := by omega
  have h1 : (wrap64 ((m : Int) - (a : Int)) == 1) = false := by
    have : wrap64 ((m : Int) - (a : Int)) ≠ 1 := by unfold wrap64; omega
    exact beq_eq_false_iff_ne.2 this
  have h2 : (wrap64 ((e : Int) - (m : Int)) == 1) = false := by
    have : wrap64 ((e : Int) - (m : Int)) ≠ 1 := by unfold wrap64; omega
    exact beq_eq_false_iff_ne.2 this
  have HM := hid (⟨ha, hm, he⟩ : _ ∧ _ ∧ _)
  obtain ⟨L, hL⟩ : ∃ L, L = X ++ A ++ B ++ Z := ⟨_, rfl⟩
  rw [← hL] at h hk
  have HL := hid hL
  have HH := hid h
  have HK := hid hk
  have HD := hid (⟨hda, hdb⟩ : _ ∧ _)
  have HF := hid hf
  have HIH := hid IH
  have HLA : Hid (∀ t, t < A.length → L[a + t]? = A[t]?) := fun t ht => by
    rw [hL, ha, List.append_assoc, List.append_assoc, List.getElem?_append_right (by omega), List.getElem?_append_left (by omega)]
    congr 1
    omega
  have HLB : Hid (∀ t, t < B.length → L[m + t]? = B[t]?) := fun t ht => by
    rw [hL, hm, List.append_assoc, ← List.length_append, List.getElem?_append_right (by omega), List.getElem?_append_left (by omega)]
    congr 1
    omega
  have hln : L.length = n := h.2.2.1
  have HLN := hid hln
  clear h hk hda hdb hf ha hm he hL hln hA hB IH
  go_enter Tryd.func88, Tryd.ntmps88
  go_upto_region 26 with fail
  have hhf : ((a : Int) + (e : Int)) / 2 = (((a + e) / 2 : Nat) : Int) := by omega
  rw [hhf]
  clear hhf
  obtain ⟨md, hmd⟩ : ∃ md, md = (a + e) / 2 := ⟨_, rfl⟩
  rw [← hmd]
  obtain ⟨N, hN⟩ : ∃ N, N = md + m := ⟨_, rfl⟩
  rw [show (md : Int) + (m : Int) = (N : Int) by omega]
  have hamd : a < md := by omega
  have hmde : md < e := by omega
  have hms : md - a ≤ e - md ∧ e - md ≤ md - a + 1 := by omega
  have HN := hid hN
  clear hmd hN
  rename_i K26 hK26
  have HK26 := hid hK26
  clear hK26
  go_wp2_with fail
  refine HK26.out _ _ ?_
  clear HK26
  apply wp_seq_k
  intro K27 hK27
  go_cut [20, 21] from 25 (fun v20 v21 (y : World) => ∃ s0 r0 : Nat, v20 = .int .i64 s0 ∧ v21 = .int .i64 r0 ∧ (a ≤ s0 ∧ s0 ≤ r0 ∧ r0 ≤ m ∧ N ≤ e + s0 ∧ m + r0 ≤ N) ∧ Hid (s0 = a ∨ N = e + s0) ∧ Hid (r0 = m ∨ N = m + r0) ∧ SrtAt w b n more L y)
  case first =>
    clear hK27
    by_cases hg : md < m
    · have hgI : (md : Int) < (m : Int) := by omega
      have hws : IntKind.i64.wrap ((N : Int) - (e : Int)) = ((N - e : Nat) : Int) := by rw [IntKind.wrap_i64]; have := HN.out; omega
      go_wp2_with fail
      go_meet
      have hN := HN.out
      exact ⟨N - e, md, rfl, rfl, by omega, .inr (by omega), .inr (by omega), HH.out⟩
    · have hgI : ¬ (md : Int) < (m : Int) := by omega
      go_wp2_with fail
      go_meet
      have hN := HN.out
      exact ⟨a, m, rfl, rfl, by omega, .inl rfl, .inl rfl, HH.out⟩
  obtain ⟨s0, r0, rfl, rfl, ⟨hb1, hb2, hb3, hb4, hb5⟩, HS0, HR0, hst0⟩ := hcut
  have HH := hid hst0
  clear hst0
  generalize wc = w1 at HH ⊢
  refine hK27 _ _ ?_
  clear hK27
  skip
  · go_wp2_with fail
    go_loopw [20, 21] (fun v20 v21 wr => ∃ (s r : Nat), v20 = .int .i64 s ∧ v21 = .int .i64 r ∧ s0 ≤ s ∧ s ≤ r ∧ r ≤ r0 ∧ Hid (SrtAt w b n more L wr ∧ SeekM s r s0 r0 N L)) (fun v20 v21 _ => (intOf v21).toNat - (intOf v20).toNat)
    case atStart => exact ⟨s0, r0, rfl, rfl, by omega, by omega, by omega, HH.out, .inl rfl, .inl rfl⟩
    case round =>
      obtain ⟨s, r, rfl, rfl, hss, hsr, hrr, HX⟩ := hrel
      by_cases hlt : s < r
      · have hltI : (s : Int) < (r : Int) := by omega
        go_upto_region 35 with fail
        have hhf : ((s : Int) + (r : Int)) / 2 = (((s + r) / 2 : Nat) : Int) := by omega
        rw [hhf]
        clear hhf
        obtain ⟨d, hd⟩ : ∃ d, d = (s + r) / 2 := ⟨_, rfl⟩
        rw [← hd]
        have hsd : s ≤ d := by omega
        have hdr : d < r := by omega
        clear hd
        obtain ⟨q, hq⟩ : ∃ q, q = N - 1 - d := ⟨_, rfl⟩
        have hqn : q < n := by have := HN.out; omega
        have hdn : d < n := by omega
        have hqnI : (q : Int) < (n : Int) := by omega
        have hdnI : (d : Int) < (n : Int) := by omega
        have hwq : IntKind.i64.wrap ((N : Int) - 1 - (d : Int)) = (q : Int) := by rw [IntKind.wrap_i64]; omega
        have HQ := hid hq
        clear hq
        have hdl : d < L.length := by have := HLN.out; omega
        have hql : q < L.length := by have := HLN.out; omega
        have HXD : Hid (L[d]? = some L[d]) := List.getElem?_eq_getElem hdl
        have HYD : Hid (L[q]? = some L[q]) := List.getElem?_eq_getElem hql
        have hx6 : L[d].1.1 ≤ 1000000 := HK.out _ (List.getElem_mem hdl)
        have hy6 : L[q].1.1 ≤ 1000000 := HK.out _ (List.getElem_mem hql)
        generalize L[d] = x0 at HXD hx6
        generalize L[q] = y0 at HYD hy6
        obtain ⟨⟨x1, xs⟩, xa, xn, xc⟩ := x0
        obtain ⟨⟨y1, ys⟩, ya, yn, yc⟩ := y0
        dsimp only at hx6 hy6
        have q0 := HX.out.1.cells HXD.out
        have q1 := HX.out.1.cells HYD.out
        have HC := hid (fun (x : World) (hx : Grow wr.drew x) => (⟨(HX.out.1.later (grow_below hx)).cells HXD.out, (HX.out.1.later (grow_below hx)).cells HYD.out⟩ : _ ∧ _))
        dsimp only at HC q0 q1
        refine wp_region_inv 14 (Grow) (by kernel_rfl) (by kernel_rfl) (Grow.refl) (fun _ _ _ => Grow.trans) ?_
        simp only [fill, dstOf, Act.put, List.take_succ_cons, List.take_zero, List.getElem?_toArray, List.getElem?_cons_zero, List.getElem?_cons_succ, Option.bind_some, List.setIfInBounds_toArray, List.set_cons_zero, List.set_cons_succ]
        refine Plan.det 1 rfl (Grow.refl) ?_
        apply Exists.intro
        refine ⟨fun vs x hR hF K hK => ?_, ?_⟩
        · clear hF
          go_simp
          exact hK _ _ (Grow.refl _) rfl
        refine Plan.det 2 rfl (Grow.refl) ?_
        apply Exists.intro
        refine ⟨fun vs x hR hF K hK => ?_, ?_⟩
        · clear hF
          go_simp
          exact hK _ _ (Grow.refl _) rfl
        refine Plan.det 3 rfl (Grow.refl) ?_
        apply Exists.intro
        refine ⟨fun vs x hR hF K hK => ?_, ?_⟩
        · clear hF
          go_simp
          exact hK _ _ (Grow.refl _) rfl
        refine Plan.det 4 rfl (Grow.refl) ?_
        apply Exists.intro
        refine ⟨fun vs x hR hF K hK => ?_, ?_⟩
        · clear hF
          go_simp
          exact hK _ _ (Grow.refl _) rfl
        refine Plan.det 5 rfl (Grow.refl) ?_
        apply Exists.intro
        refine ⟨fun vs x hR hF K hK => ?_, ?_⟩
        · have f2 := hF 1 _ _ rfl rfl; have f3 := hF 0 _ _ rfl rfl; clear hF
          go_simp
          exact hK _ _ (Grow.refl _) rfl
        refine Plan.det 6 rfl (Grow.refl) ?_
        apply Exists.intro
        refine ⟨fun vs x hR hF K hK => ?_, ?_⟩
        · have f1 := hF 3 _ _ rfl rfl; have f4 := hF 0 _ _ rfl rfl; clear hF
          go_simp
          exact hK _ _ (Grow.refl _) rfl
        refine Plan.det 7 rfl (Grow.refl) ?_
        apply Exists.intro
        refine ⟨fun vs x hR hF K hK => ?_, ?_⟩
        · have f5 := hF 0 _ _ rfl rfl; have hc := HC.out x hR; clear hF
          go_simp
          exact hK _ _ (Grow.refl _) rfl
        refine Plan.det 8 rfl (Grow.refl) ?_
        apply Exists.intro
        refine ⟨fun vs x hR hF K hK => ?_, ?_⟩
        · clear hF
          go_simp
          exact hK _ _ (Grow.refl _) rfl
        refine Plan.det 9 rfl (Grow.refl) ?_
        apply Exists.intro
        refine ⟨fun vs x hR hF K hK => ?_, ?_⟩
        · clear hF
          go_simp
          exact hK _ _ (Grow.refl _) rfl
        refine Plan.det 10 rfl (Grow.refl) ?_
        apply Exists.intro
        refine ⟨fun vs x hR hF K hK => ?_, ?_⟩
        · have f7 := hF 1 _ _ rfl rfl; have f8 := hF 0 _ _ rfl rfl; clear hF
          go_simp
          exact hK _ _ (Grow.refl _) rfl
        refine Plan.det 11 rfl (Grow.refl) ?_
        apply Exists.intro
        refine ⟨fun vs x hR hF K hK => ?_, ?_⟩
        · have f9 := hF 0 _ _ rfl rfl; have hc := HC.out x hR; clear hF
          go_simp
          exact hK _ _ (Grow.refl _) rfl
        refine Plan.det 12 rfl (Grow.refl) ?_
        apply Exists.intro
        refine ⟨fun vs x hR hF K hK => ?_, ?_⟩
        · have f0 := hF 10 _ _ rfl rfl; have f6 := hF 4 _ _ rfl rfl; have f10 := hF 0 _ _ rfl rfl; clear hF
          go_simp
          refine (pcmp_any x y1 x1 ya xa yn xn yc xc hy6 hx6).mono ?_
          rintro e x1 ⟨rfl, hbe⟩
          exact ⟨_, rfl, hK _ _ hbe rfl⟩
        refine Plan.det 13 rfl (Grow.refl) ?_
        apply Exists.intro
        refine ⟨fun vs x hR hF K hK => ?_, ?_⟩
        · have f11 := hF 0 _ _ rfl rfl; clear hF
          go_simp
          exact hK _ _ (Grow.refl _) rfl
        refine Plan.det 14 rfl (Grow.refl) ?_
        apply Exists.intro
        refine ⟨fun vs x hR hF K hK => ?_, ?_⟩
        · have f12 := hF 0 _ _ rfl rfl; clear hF
          go_simp
          exact hK _ _ (Grow.refl _) rfl
        refine Plan.nil (fun vs x hR hF => ?_)
        have f0 := hF 13 _ _ rfl; have f1 := hF 12 _ _ rfl; have f2 := hF 11 _ _ rfl; have f3 := hF 10 _ _ rfl; have f4 := hF 9 _ _ rfl; have f5 := hF 8 _ _ rfl; have f6 := hF 7 _ _ rfl; have f7 := hF 6 _ _ rfl; have f8 := hF 5 _ _ rfl; have f9 := hF 4 _ _ rfl; have f10 := hF 3 _ _ rfl; have f11 := hF 2 _ _ rfl; have f12 := hF 1 _ _ rfl; have f13 := hF 0 _ _ rfl
        clear hF
        simp only [f0, f1, f2, f3, f4, f5, f6, f7, f8, f9, f10, f11, f12, f13]
        clear f0 f1 f2 f3 f4 f5 f6 f7 f8 f9 f10 f11 f12 f13
        simp only [List.drop_succ_cons, List.drop_zero]
        have HX2 := hid (HX.out.1.later (grow_below hR))
        have HSK := hid HX.out.2
        clear HC q0 q1 hR HX
        by_cases hc : (x1 : Int) - (y1 : Int) < 0
        · have HN2 : Hid (SrtAt w b n more L x ∧ SeekM s d s0 r0 N L) := ⟨HX2.out, HSK.out.1, .inr ⟨_, _, HXD.out, by rw [← HQ.out]; exact HYD.out, by show (x1 : Int) < y1; omega⟩⟩
          clear HX2 HSK
          rw [decide_eq_true hc]
          go_wp2_with fail
          refine ⟨⟨s, d, rfl, rfl, by omega, by omega, by omega, HN2.out⟩, ?_⟩
          simp [intOf] <;> omega
        · have HN2 : Hid (SrtAt w b n more L x ∧ SeekM (d + 1) r s0 r0 N L) := ⟨HX2.out, .inr ⟨_, _, by omega, HXD.out, by rw [show N - (d + 1) = q by have := HQ.out; omega]; exact HYD.out, by show (y1 : Int) ≤ x1; omega⟩, HSK.out.2⟩
          clear HX2 HSK
          rw [decide_eq_false hc]
          go_wp2_with fail
          refine ⟨⟨d + 1, r, by go_num, rfl, by omega, by omega, by omega, HN2.out⟩, ?_⟩
          simp [intOf] <;> omega
      · obtain rfl : s = r := by omega
        have hltI : ¬ (s : Int) < (s : Int) := by omega
        have HSK := hid HX.out.2
        have HST := hid HX.out.1
        clear HX HH
        obtain ⟨en, hen2⟩ : ∃ en, en = N - s := ⟨_, rfl⟩
        have hwe : IntKind.i64.wrap ((N : Int) - (s : Int)) = (en : Int) := by rw [IntKind.wrap_i64]; omega
        have hse : a ≤ s ∧ s ≤ m ∧ m ≤ en ∧ en ≤ e := by omega
        have hsn : s + en = md + m := by have := HN.out; omega
        have HCUT := hid (seekM_cut (s := s) (N := N) (s0 := s0) (r0 := r0) (by have := HM.out; omega : m = a + A.length) (by have := HM.out; omega : e = m + B.length) HLA.out HLB.out (by omega) HS0.out HR0.out HSK.out)
        rw [show N - s - m = en - m by omega] at HCUT
        obtain ⟨u, hu⟩ : ∃ u, u = A.take (s - a) := ⟨_, rfl⟩
        obtain ⟨v, hv⟩ : ∃ v, v = A.drop (s - a) := ⟨_, rfl⟩
        obtain ⟨p, hp⟩ : ∃ p, p = B.take (en - m) := ⟨_, rfl⟩
        obtain ⟨z, hz⟩ : ∃ z, z = B.drop (en - m) := ⟨_, rfl⟩
        rw [← hu, ← hv, ← hp, ← hz] at HCUT
        have hAuv : A = u ++ v := by rw [hu, hv, List.take_append_drop]
        have hBpz : B = p ++ z := by rw [hp, hz, List.take_append_drop]
        have hul : u.length = s - a := by rw [hu, List.length_take]; have := HM.out; omega
        have hvl : v.length = m - s := by rw [hv, List.length_drop]; have := HM.out; omega
        have hpl : p.length = en - m := by rw [hp, List.length_take]; have := HM.out; omega
        have hzl : z.length = e - en := by rw [hz, List.length_drop]; have := HM.out; omega
        have HLEN := hid (⟨hul, hvl, hpl, hzl, HM.out.1⟩ : _ ∧ _ ∧ _ ∧ _ ∧ a = X.length)
        have HAB := hid (⟨hAuv, hBpz⟩ : _ ∧ _)
        have hst := HST.out
        rw [HL.out, hAuv, hBpz] at hst
        have HST2 := hid hst
        have hd := HD.out
        rw [hAuv, hBpz] at hd
        have HD2 := hid hd
        have HK2 : Hid (∀ k, k ∈ X ++ (u ++ v) ++ (p ++ z) ++ Z → k.1.1 ≤ 1000000) := fun k hk => HK.out k (by rw [HL.out, hAuv, hBpz]; exact hk)
        clear hu hv hp hz hAuv hBpz hul hvl hpl hzl hst hd HST HSK HS0 HR0 hen2 HLA HLB hlt hltI
        go_upto_region 38 with fail
        rename_i K38 hK38
        have HK38 := hid hK38
        clear hK38
        go_wp2_with fail
        refine HK38.out _ _ ?_
        clear HK38 hwe
        apply wp_seq_k
        intro K1 hK1
        go_cut [] from 25 (fun (y : World) => SrtAt w b n more (X ++ (u ++ p) ++ (v ++ z) ++ Z) y)
        case first =>
          clear hK1
          have hr3 : ((s : Int) < (m : Int) ∧ (m : Int) < (en : Int) ∧ v ≠ [] ∧ p ≠ []) ∨ ((¬ (s : Int) < (m : Int) ∨ ((s : Int) < (m : Int) ∧ ¬ (m : Int) < (en : Int))) ∧ Hid (v = [] ∨ p = [])) := by
            by_cases g1 : s < m
            · by_cases g2 : m < en
              · refine .inl ⟨by omega, by omega, fun e => ?_, fun e => ?_⟩
                · have := HLEN.out.2.1; rw [e] at this; simp at this; omega
                · have := HLEN.out.2.2.1; rw [e] at this; simp at this; omega
              · exact .inr ⟨.inr ⟨by omega, by omega⟩, .inr (List.eq_nil_of_length_eq_zero (by have := HLEN.out.2.2.1; omega))⟩
            · exact .inr ⟨.inl (by omega), .inl (List.eq_nil_of_length_eq_zero (by have := HLEN.out.2.1; omega))⟩
          rcases hr3 with ⟨g1, g2, g3, g4⟩ | ⟨g1 | ⟨g1, g2⟩, HE⟩
          · have hc := protate_any w wr b n c more (X ++ u) v p (z ++ Z) (by simpa using HST2.out) g3 g4 hn
            have l1 : (X ++ u).length = s := by rw [List.length_append, ← HLEN.out.2.2.2.2, HLEN.out.1]; omega
            have l2 : s + v.length = m := by rw [HLEN.out.2.1]; omega
            have l3 : m + p.length = en := by rw [HLEN.out.2.2.1]; omega
            rw [l1, l2, l3] at hc
            have HC := hid hc
            clear hc l1 l2 l3 g3 g4
            go_wp2_with fail
            refine HC.out.mono ?_
            rintro e1 y ⟨rfl, hy⟩
            clear HC
            have HY := hid hy
            clear hy
            go_wp2_with fail
            go_meet
            simpa using HY.out
          all_goals
            go_wp2_with fail
            go_meet
            have h5 := HST2.out
            rcases HE.out with e | e <;> rw [e] at h5 ⊢ <;> simpa using h5
        have HY := hid hcut
        clear hcut HST2
        generalize wc = y at HY ⊢
        refine hK1 _ _ ?_
        clear hK1
        apply wp_seq_k
        intro K2 hK2
        go_cut [] from 25 (fun (y' : World) => ∃ M1, SrtAt w b n more (X ++ M1 ++ (v ++ z) ++ Z) y' ∧ Desc zkey M1 ∧ SameF zkey (u ++ p) M1)
        case first =>
          clear hK2
          have hr3 : ((a : Int) < (s : Int) ∧ (s : Int) < (md : Int) ∧ u ≠ [] ∧ p ≠ []) ∨ ((¬ (a : Int) < (s : Int) ∨ ((a : Int) < (s : Int) ∧ ¬ (s : Int) < (md : Int))) ∧ Hid (u = [] ∨ p = [])) := by
            by_cases g1 : a < s
            · by_cases g2 : s < md
              · refine .inl ⟨by omega, by omega, fun e => ?_, fun e => ?_⟩
                · have := HLEN.out.1; rw [e] at this; simp at this; omega
                · have := HLEN.out.2.2.1; rw [e] at this; simp at this; omega
              · exact .inr ⟨.inr ⟨by omega, by omega⟩, .inr (List.eq_nil_of_length_eq_zero (by have := HLEN.out.2.2.1; omega))⟩
            · exact .inr ⟨.inl (by omega), .inl (List.eq_nil_of_length_eq_zero (by have := HLEN.out.1; omega))⟩
          rcases hr3 with ⟨g1, g2, g3, g4⟩ | ⟨g1 | ⟨g1, g2⟩, HE⟩
          · have hself : SrtAt y b n more (X ++ u ++ p ++ ((v ++ z) ++ Z)) y := ⟨by simpa using HY.out.1, But.refl _ _, by simpa using HY.out.2.2.1, HY.out.1.lt⟩
            have hfl1 : u.length + p.length ≤ f := by
              have h5 := HF.out
              rw [HAB.out.1, HAB.out.2, List.length_append, List.length_append] at h5
              have h7 := HLEN.out.2.2.2.1
              have h8 := HLEN.out.2.1
              omega
            have hc := HIH.out y b n c more X u p ((v ++ z) ++ Z) hfl1 hself g3 g4 HD2.out.1.left HD2.out.2.left hn (fun k hk => HK2.out k (mem_mid hk))
            have l1 : a + u.length = s := by rw [HLEN.out.1]; omega
            have l2 : s + p.length = md := by rw [HLEN.out.2.2.1]; omega
            rw [← HLEN.out.2.2.2.2, l1, l2] at hc
            have HC := hid hc
            clear hc l1 l2 g3 g4 hself
            go_wp2_with fail
            refine HC.out.mono ?_
            rintro e1 y2 ⟨rfl, M1, hy, hd1, hs1⟩
            clear HC
            have HY2 := hid (⟨HY.out.trans hy, hd1, hs1⟩ : _ ∧ _ ∧ _)
            clear hy hd1 hs1
            go_wp2_with fail
            go_meet
            exact ⟨M1, by simpa using HY2.out.1, HY2.out.2.1, HY2.out.2.2⟩
          all_goals
            go_wp2_with fail
            go_meet
            refine ⟨u ++ p, HY.out, ?_, SameF.refl _⟩
            have h5 := HD2.out.1.left
            have h6 := HD2.out.2.left
            rcases HE.out with e | e
            · rw [e]; simpa using h6
            · rw [e]; simpa using h5
        obtain ⟨M1, hcut⟩ := hcut
        have HY2 := hid hcut
        clear hcut HY
        generalize wc = y2 at HY2 ⊢
        refine hK2 _ _ ?_
        clear hK2
        have hM1l : M1.length = md - a := by rw [← HY2.out.2.2.length, List.length_append, HLEN.out.1, HLEN.out.2.2.1]; omega
        have HM1 := hid hM1l
        clear hM1l
        have hr3 : ((md : Int) < (en : Int) ∧ (en : Int) < (e : Int) ∧ v ≠ [] ∧ z ≠ []) ∨ ((¬ (md : Int) < (en : Int) ∨ ((md : Int) < (en : Int) ∧ ¬ (en : Int) < (e : Int))) ∧ Hid (v = [] ∨ z = [])) := by
          by_cases g1 : md < en
          · by_cases g2 : en < e
            · refine .inl ⟨by omega, by omega, fun e => ?_, fun e => ?_⟩
              · have := HLEN.out.2.1; rw [e] at this; simp at this; omega
              · have := HLEN.out.2.2.2.1; rw [e] at this; simp at this; omega
            · exact .inr ⟨.inr ⟨by omega, by omega⟩, .inr (List.eq_nil_of_length_eq_zero (by have := HLEN.out.2.2.2.1; omega))⟩
          · exact .inr ⟨.inl (by omega), .inl (List.eq_nil_of_length_eq_zero (by have := HLEN.out.2.1; omega))⟩
        rcases hr3 with ⟨g1, g2, g3, g4⟩ | ⟨g1 | ⟨g1, g2⟩, HE⟩
        · have hself : SrtAt y2 b n more ((X ++ M1) ++ v ++ z ++ Z) y2 := ⟨by simpa using HY2.out.1.1, But.refl _ _, by simpa using HY2.out.1.2.2.1, HY2.out.1.1.lt⟩
          have hfl1 : v.length + z.length ≤ f := by
            have h5 := HF.out
            rw [HAB.out.1, HAB.out.2, List.length_append, List.length_append] at h5
            have h7 := HLEN.out.1
            have h8 := HLEN.out.2.2.1
            omega
          have hc := HIH.out y2 b n c more (X ++ M1) v z Z hfl1 hself g3 g4 HD2.out.1.right HD2.out.2.right hn (fun k hk => HK2.out k (by
            have h8 := fun h => HY2.out.2.2.symm.mem (x := k) h
            simp at hk h8 ⊢
            rcases hk with h | h | h | h | h
            · exact .inl h
            · rcases h8 h with h | h
              · exact .inr (.inl h)
              · exact .inr (.inr (.inr (.inl h)))
            · exact .inr (.inr (.inl h))
            · exact .inr (.inr (.inr (.inr (.inl h))))
            · exact .inr (.inr (.inr (.inr (.inr h))))))
          have l1 : (X ++ M1).length = md := by rw [List.length_append, ← HLEN.out.2.2.2.2, HM1.out]; omega
          have l2 : md + v.length = en := by rw [HLEN.out.2.1]; omega
          have l3 : en + z.length = e := by rw [HLEN.out.2.2.2.1]; omega
          rw [l1, l2, l3] at hc
          have HC := hid hc
          clear hc l1 l2 l3 g3 g4 hself
          go_wp2_with fail
          refine HC.out.mono ?_
          rintro e1 y3 ⟨rfl, M2, hy, hd2, hs2⟩
          have HFIN : Hid (SrtPost w b n more X (A ++ B) Z (.returned (.tuple #[])) y3) := by
            have hmp := merge_parts HD2.out.1 HD2.out.2 HCUT.out.1 HCUT.out.2 HY2.out.2.1 hd2 HY2.out.2.2 hs2
            refine ⟨rfl, M1 ++ M2, by simpa using HY2.out.1.trans hy, hmp.1, ?_⟩
            rw [HAB.out.1, HAB.out.2]
            exact hmp.2
          clear hy hd2 hs2 HC
          go_wp2_with fail
          go_end0
          exact HFIN.out
        all_goals
          have hdvz : Desc zkey (v ++ z) := by
            have h5 := HD2.out.1.right
            have h6 := HD2.out.2.right
            rcases HE.out with e | e
            · rw [e]; simpa using h6
            · rw [e]; simpa using h5
          have HFIN : Hid (SrtPost w b n more X (A ++ B) Z (.returned (.tuple #[])) y2) := by
            have hmp := merge_parts HD2.out.1 HD2.out.2 HCUT.out.1 HCUT.out.2 HY2.out.2.1 hdvz HY2.out.2.2 (SameF.refl _)
            refine ⟨rfl, M1 ++ (v ++ z), by simpa using HY2.out.1, hmp.1, ?_⟩
            rw [HAB.out.1, HAB.out.2]
            exact hmp.2
          clear hdvz
          go_wp2_with fail
          go_end0
          exact HFIN.out
end Go.Proofs.YtkinnfejgpnddaaDoor

/- The program of layer 9: the stable sort of a row of parses. -/
namespace Go.Proofs.YtkinnfejgpnddaaDoor
open Go.RowKit
attribute [local go_sem] gives givesUpon

theorem pmerge_any : ∀ f, MergeC f
  | 0, w, b, n, c, more, X, A, B, Z, hf, h, hA, hB, _, _, _, _ => by
    have := List.length_pos_iff.2 hA
    omega
  | f + 1, w, b, n, c, more, X, A, B, Z, hf, h, hA, hB, hda, hdb, hn, hk => by
    by_cases h1 : A.length = 1
    · obtain ⟨x, rfl⟩ := List.length_eq_one_iff.1 h1
      exact pmerge_left w b n c more X B Z x h hdb hn hk
    by_cases h2 : B.length = 1
    · obtain ⟨x, rfl⟩ := List.length_eq_one_iff.1 h2
      exact pmerge_right w b n c more X A Z x h (by have := List.length_pos_iff.2 hA; omega) hda hn hk
    · exact pmerge_gen f (pmerge_any f) w b n c more X A B Z hf h (by have := List.length_pos_iff.2 hA; omega) (by have := List.length_pos_iff.2 hB; omega) hda hdb hn hk
/-- Sorted runs of one length. -/
def Runs (s : Nat) (rs : List (List Zel)) : Prop := ∀ r, r ∈ rs → r.length = s ∧ Desc zkey r
theorem Runs.len {s : Nat} : ∀ {rs : List (List Zel)}, Runs s rs → rs.flatten.length = rs.length * s
  | [], _ => by simp
  | r :: rs, h => by
    have := Runs.len (rs := rs) (fun q hq => h q (by simp [hq]))
    rw [List.flatten_cons, List.length_append, this, (h r (by simp)).1, List.length_cons, Nat.succ_mul]
    omega
theorem Runs.snoc {s : Nat} {rs : List (List Zel)} {r : List Zel} (h : Runs s rs) (hl : r.length = s) (hd : Desc zkey r) : Runs s (rs ++ [r]) := fun q hq => by
  rcases List.mem_append.1 hq with hq | hq
  · exact h q hq
  · rw [List.mem_singleton.1 hq]; exact ⟨hl, hd⟩
theorem flat_snoc (rs : List (List Zel)) (r : List Zel) : (rs ++ [r]).flatten = rs.flatten ++ r := by simp
/-- The row as runs and a shorter sorted rest. -/
def RunL (s : Nat) (L0 L : List Zel) : Prop := ∃ rs c, L = rs.flatten ++ c ∧ Runs s rs ∧ c.length < s ∧ Desc zkey c ∧ SameF zkey L0 L
theorem RunL.done {s : Nat} {L0 L : List Zel} (h : RunL s L0 L) (hs : L.length ≤ s) : Desc zkey L := by
  obtain ⟨rs, c, rfl, hr, hc, hd, _⟩ := h
  cases rs with
  | nil => simpa using hd
  | cons r rs =>
    have h1 := hr.len
    have h2 := hr r (by simp)
    rw [List.length_append, h1, List.length_cons, Nat.succ_mul] at hs
    have h3 : c = [] := List.eq_nil_of_length_eq_zero (by omega)
    have h4 : rs = [] := by
      cases rs with
      | nil => rfl
      | cons q rs => exfalso; rw [List.length_cons, Nat.succ_mul] at hs; omega
    subst h3; subst h4
    simpa using h2.2
theorem SrtAt.self {w0 w : World} {b n : Nat} {more : List Value} {L L' : List Zel} (h : SrtAt w0 b n more L w) (e : L = L') : SrtAt w b n more L' w := ⟨e ▸ h.1, But.refl _ _, e ▸ h.2.2.1, h.1.lt⟩
set_option maxRecDepth 100000 in
set_option maxHeartbeats 16000000 in
theorem pstable_any (w : World) (b n c' : Nat) (more : List Value) (L : List Zel) (h : SrtAt w b n more L w) (hn : n ≤ 200000) (hk : ∀ z, z ∈ L → z.1.1 ≤ 1000000) :
    Calls Tryd.prog 84 #[.slice (some ⟨b, 0, none⟩) n c', .int .i64 n, .func (.func 80) #[] #[]] w (SrtPost w b n more [] L []) := by
  have HH := hid h
  have HK := hid hk
  clear h hk
  go_enter Tryd.func84, Tryd.ntmps84
  go_wp2_with fail
  go_loopw [7, 8] (fun v7 v8 wr => ∃ (a d : Nat), v7 = .int .i64 a ∧ v8 = .int .i64 d ∧ a ≤ n ∧ d ≤ n + 20 ∧ Hid (d = a + 20 ∧ ∃ rs R, SrtAt w b n more (rs.flatten ++ R) wr ∧ Runs 20 rs ∧ rs.length * 20 = a ∧ SameF zkey L (rs.flatten ++ R))) (fun _ v8 _ => n + 20 - (intOf v8).toNat)
  case atStart => exact ⟨0, 20, rfl, rfl, by omega, by omega, rfl, [], L, by simpa using HH.out, (fun _ h => by cases h), rfl, by simpa using SameF.refl L⟩
  case round =>
    obtain ⟨a, d, rfl, rfl, hin, hdn, HX⟩ := hrel
    obtain ⟨hd, rs, R, h0, h1, h2, h3⟩ := HX.out
    have hfl := h1.len
    rw [h2] at hfl
    have hln := h0.2.2.1
    rw [List.length_append, hfl] at hln
    by_cases hlt : d ≤ n
    · have hltI : (d : Int) ≤ (n : Int) := by omega
      obtain ⟨r, R2, rfl, hr⟩ := cut_at R 20 (by omega)
      have hc := pinsert_any wr b n c' more rs.flatten r R2 (h0.self (by simp)) hn (fun z hz => HK.out z (h3.symm.mem (by simpa using hz)))
      rw [hfl, hr, ← hd] at hc
      have HC := hid hc
      have HG := hid (⟨h0, h1, h2, h3, hr, hd⟩ : _ ∧ _ ∧ _ ∧ _ ∧ _ ∧ _)
      clear hc h0 h1 h2 h3 hr hfl hln hd HX
      go_wp2_with fail
      refine HC.out.mono ?_
      rintro e z ⟨rfl, r', g0, g1, g2⟩
      have HN : Hid (∃ rs R, SrtAt w b n more (rs.flatten ++ R) z ∧ Runs 20 rs ∧ rs.length * 20 = d ∧ SameF zkey L (rs.flatten ++ R)) := by
        refine ⟨rs ++ [r'], R2, ?_, HG.out.2.1.snoc (by rw [← g2.length, HG.out.2.2.2.2.1]) g1, ?_, ?_⟩
        · rw [flat_snoc]; exact HG.out.1.trans g0
        · have := HG.out.2.2.1; have := HG.out.2.2.2.2.2; simp; omega
        · rw [flat_snoc]
          refine HG.out.2.2.2.1.trans ?_
          rw [← List.append_assoc]
          exact ((SameF.refl _).append g2).append (SameF.refl _)
      clear g0 g1 g2 HC HG
      go_wp2_with fail
      refine ⟨⟨d, d + 20, rfl, by go_num, by omega, by omega, rfl, HN.out⟩, ?_⟩
      simp [intOf] <;> omega
    · have hltI : ¬ (d : Int) ≤ (n : Int) := by omega
      have hc := pinsert_any wr b n c' more rs.flatten R [] (h0.self (by simp)) hn (fun z hz => HK.out z (h3.symm.mem (by simpa using hz)))
      rw [hfl, hln] at hc
      have HC := hid hc
      have HG := hid (⟨h0, h1, h3⟩ : _ ∧ _ ∧ _)
      have hRl : R.length < 20 := by omega
      clear hc h0 h1 h2 h3 hfl hln hd HX
      go_wp2_with fail
      refine HC.out.mono ?_
      rintro e z ⟨rfl, r', g0, g1, g2⟩
      have HN : Hid (∃ L', SrtAt w b n more L' z ∧ RunL 20 L L') := by
        refine ⟨rs.flatten ++ r', by simpa using HG.out.1.trans g0, rs, r', rfl, HG.out.2.1, by rw [← g2.length]; exact hRl, g1, ?_⟩
        exact HG.out.2.2.trans ((SameF.refl _).append g2)
      clear g0 g1 g2 HC HG
      go_wp2_with fail
      go_loopw [6] (fun v6 wr => ∃ (s : Nat), v6 = .int .i64 s ∧ 20 ≤ s ∧ s ≤ 400000 ∧ Hid (∃ L', SrtAt w b n more L' wr ∧ RunL s L L')) (fun v6 _ => 400000 - (intOf v6).toNat)
      case atStart => exact ⟨20, rfl, by omega, by omega, HN.out⟩
      case round =>
        obtain ⟨s, rfl, hs20, hs4, HS⟩ := hrel
        clear HN
        by_cases hsn : s < n
        · have hsnI : (s : Int) < (n : Int) := by omega
          have HST : Hid (∃ (qs rs : List (List Zel)) (c : List Zel), SrtAt w b n more (qs.flatten ++ (rs.flatten ++ c)) wr ∧ Runs (2 * s) qs ∧ qs.length * (2 * s) = 0 ∧ Runs s rs ∧ c.length < s ∧ Desc zkey c ∧ SameF zkey L (qs.flatten ++ (rs.flatten ++ c))) := by
            obtain ⟨L', k0, rs, c, rfl, k1, k2, k3, k4⟩ := HS.out
            exact ⟨[], rs, c, by simpa using k0, (fun _ h => by cases h), by simp, k1, k2, k3, by simpa using k4⟩
          clear HS
          go_wp2_with fail
          go_loopw [7, 8] (fun v7 v8 wr => ∃ (a d : Nat), v7 = .int .i64 a ∧ v8 = .int .i64 d ∧ a ≤ n ∧ d ≤ n + 2 * s ∧ Hid (d = a + 2 * s ∧ ∃ (qs rs : List (List Zel)) (c : List Zel), SrtAt w b n more (qs.flatten ++ (rs.flatten ++ c)) wr ∧ Runs (2 * s) qs ∧ qs.length * (2 * s) = a ∧ Runs s rs ∧ c.length < s ∧ Desc zkey c ∧ SameF zkey L (qs.flatten ++ (rs.flatten ++ c)))) (fun _ v8 _ => n + 2 * s - (intOf v8).toNat)
          case atStart => exact ⟨0, 2 * s, by go_num, by go_num, by omega, by omega, by omega, HST.out⟩
          case round =>
            obtain ⟨a, d, rfl, rfl, han, hdn, HY⟩ := hrel
            clear HST
            obtain ⟨hd, qs, rs, c, h0, h1, h2, h3, h4, h5, h6⟩ := HY.out
            have hfl := h1.len
            rw [h2] at hfl
            have hrl := h3.len
            have hln := h0.2.2.1
            rw [List.length_append, List.length_append, hfl, hrl] at hln
            by_cases hlt : d ≤ n
            · have hltI : (d : Int) ≤ (n : Int) := by omega
              obtain ⟨r1, r2, rs2, rfl⟩ : ∃ r1 r2 rs2, rs = r1 :: r2 :: rs2 := by
                match rs with
                | [] => simp at hln; omega
                | [r] => simp at hln; omega
                | r1 :: r2 :: rs2 => exact ⟨r1, r2, rs2, rfl⟩
              have l1 := h3 r1 (by simp)
              have l2 := h3 r2 (by simp)
              have hc := pmerge_any (2 * s) wr b n c' more qs.flatten r1 r2 (rs2.flatten ++ c) (by omega) (h0.self (by simp)) (fun e => by rw [e] at l1; simp at l1; omega) (fun e => by rw [e] at l2; simp at l2; omega) l1.2 l2.2 hn (fun z hz => HK.out z (h6.symm.mem (by simpa using hz)))
              rw [hfl, l1.1, l2.1, show a + s + s = d by omega, Int.natCast_add] at hc
              have HC := hid hc
              have HG := hid (⟨h0, h1, h2, h3, h4, h5, h6⟩ : _ ∧ _ ∧ _ ∧ _ ∧ _ ∧ _ ∧ _)
              have HL := hid (⟨l1, l2, hd⟩ : _ ∧ _ ∧ _)
              clear hc h0 h1 h2 h3 h4 h5 h6 hfl hrl hln hd HY l1 l2
              go_wp2_with fail
              refine HC.out.mono ?_
              rintro e z ⟨rfl, r', g0, g1, g2⟩
              have HN : Hid (∃ (qs rs : List (List Zel)) (c : List Zel), SrtAt w b n more (qs.flatten ++ (rs.flatten ++ c)) z ∧ Runs (2 * s) qs ∧ qs.length * (2 * s) = d ∧ Runs s rs ∧ c.length < s ∧ Desc zkey c ∧ SameF zkey L (qs.flatten ++ (rs.flatten ++ c))) := by
                refine ⟨qs ++ [r'], rs2, c, ?_, HG.out.2.1.snoc ?_ g1, ?_, fun q hq => HG.out.2.2.2.1 q (by simp [hq]), HG.out.2.2.2.2.1, HG.out.2.2.2.2.2.1, ?_⟩
                · rw [flat_snoc]; simpa using HG.out.1.trans g0
                · rw [← g2.length, List.length_append, HL.out.1.1, HL.out.2.1.1]; omega
                · rw [List.length_append, List.length_singleton, Nat.add_mul, HG.out.2.2.1, Nat.one_mul]; exact HL.out.2.2.symm
                · rw [flat_snoc]
                  refine HG.out.2.2.2.2.2.2.trans ?_
                  have e1 : qs.flatten ++ ((r1 :: r2 :: rs2).flatten ++ c) = qs.flatten ++ (r1 ++ r2) ++ (rs2.flatten ++ c) := by simp
                  rw [e1]
                  exact ((SameF.refl _).append g2).append (SameF.refl _)
              clear g0 g1 g2 HC HG
              go_wp2_with fail
              refine ⟨⟨d, d + 2 * s, rfl, by go_num, by omega, by omega, rfl, HN.out⟩, ?_⟩
              simp [intOf] <;> omega
            · have hltI : ¬ (d : Int) ≤ (n : Int) := by omega
              have hrs : (rs = [] ∧ n = a + c.length) ∨ ∃ r, rs = [r] := by
                match rs with
                | [] => left; simp at hln; exact ⟨rfl, by omega⟩
                | [r] => exact .inr ⟨r, rfl⟩
                | r1 :: r2 :: rs2 =>
                  exfalso
                  rw [List.length_cons, List.length_cons, Nat.succ_mul, Nat.succ_mul] at hln
                  omega
              have hcase : (¬ (a : Int) + (s : Int) < (n : Int) ∧ Hid (∃ L', SrtAt w b n more L' wr ∧ RunL (2 * s) L L')) ∨ ((a : Int) + (s : Int) < (n : Int) ∧ ∃ r, rs = [r] ∧ c ≠ []) := by
                rcases hrs with ⟨rfl, e1⟩ | ⟨r, rfl⟩
                · exact .inl ⟨by omega, qs.flatten ++ c, by simpa using h0, qs, c, rfl, h1, by omega, h5, by simpa using h6⟩
                · have l1 := h3 r (by simp)
                  by_cases hc0 : c = []
                  · subst hc0
                    refine .inl ⟨by simp at hln; omega, qs.flatten ++ r, by simpa using h0, qs, r, rfl, h1, by rw [l1.1]; omega, l1.2, by simpa using h6⟩
                  · have := List.length_pos_iff.2 hc0
                    refine .inr ⟨by simp at hln; omega, r, rfl, hc0⟩
              rcases hcase with ⟨hm, HN⟩ | ⟨hm, r, rfl, hc0⟩
              · clear h0 h1 h2 h3 h4 h5 h6 hfl hrl hln hd HY hrs
                go_wp2_with fail
                refine ⟨⟨2 * s, by go_num, by omega, by omega, HN.out⟩, ?_⟩
                simp [intOf] <;> omega
              · have l1 := h3 r (by simp)
                have hcn : a + s + c.length = n := by simp at hln; omega
                have hc := pmerge_any (2 * s) wr b n c' more qs.flatten r c [] (by omega) (h0.self (by simp)) (fun e => by rw [e] at l1; simp at l1; omega) hc0 l1.2 h5 hn (fun z hz => HK.out z (h6.symm.mem (by simpa using hz)))
                rw [hfl, l1.1, hcn, Int.natCast_add] at hc
                have HC := hid hc
                have HG := hid (⟨h0, h1, h4, h6, l1⟩ : _ ∧ _ ∧ _ ∧ _ ∧ _)
                clear hc h0 h1 h2 h3 h4 h5 h6 hfl hrl hln hd HY hrs l1 hcn hc0
                go_wp2_with fail
                refine HC.out.mono ?_
                rintro e z ⟨rfl, r', g0, g1, g2⟩
                have HN : Hid (∃ L', SrtAt w b n more L' z ∧ RunL (2 * s) L L') := by
                  refine ⟨qs.flatten ++ r', by simpa using HG.out.1.trans g0, qs, r', rfl, HG.out.2.1, ?_, g1, ?_⟩
                  · have := HG.out.2.2.1
                    rw [← g2.length, List.length_append, HG.out.2.2.2.2.1]; omega
                  · refine HG.out.2.2.2.1.trans ?_
                    have e1 : qs.flatten ++ (([r] : List (List Zel)).flatten ++ c) = qs.flatten ++ (r ++ c) := by simp
                    rw [e1]
                    exact (SameF.refl _).append g2
                clear g0 g1 g2 HC HG
                go_wp2_with fail
                refine ⟨⟨2 * s, by go_num, by omega, by omega, HN.out⟩, ?_⟩
                simp [intOf] <;> omega
        · have hsnI : ¬ (s : Int) < (n : Int) := by omega
          have HF : Hid (SrtPost w b n more [] L [] (.returned (.tuple #[])) wr) := by
            obtain ⟨L', k0, k1⟩ := HS.out
            have k2 := k1.done (by rw [k0.2.2.1]; omega)
            obtain ⟨rs, c, rfl, _, _, _, k3⟩ := k1
            exact ⟨rfl, _, by simpa using k0, k2, k3⟩
          clear HS
          go_wp2_with fail
          go_end0
          exact HF.out
set_option maxRecDepth 100000 in
set_option maxHeartbeats 4000000 in
theorem pinsert_nil (w : World) : Calls Tryd.prog 87 #[.slice none 0 0, .int .i64 0, .int .i64 0, .func (.func 80) #[] #[]] w fun e w' => e = .returned (.tuple #[]) ∧ w' = w := by
  go_enter Tryd.func87, Tryd.ntmps87
  go_wp2_with fail
  go_loopw [8] (fun v8 wr => v8 = .int .i64 1 ∧ wr = w) (fun v8 _ => 0)
  case atStart => exact ⟨rfl, rfl⟩
  case round =>
    obtain ⟨rfl, rfl⟩ := hrel
    go_wp2_with fail
    go_end0
    exact ⟨rfl, rfl⟩
set_option maxRecDepth 100000 in
set_option maxHeartbeats 4000000 in
theorem pstable_nil (w : World) : Calls Tryd.prog 84 #[.slice none 0 0, .int .i64 0, .func (.func 80) #[] #[]] w fun e w' => e = .returned (.tuple #[]) ∧ w' = w := by
  have HI := hid (pinsert_nil w)
  go_enter Tryd.func84, Tryd.ntmps84
  go_wp2_with fail
  go_loopw [7, 8] (fun v7 v8 wr => v7 = .int .i64 0 ∧ v8 = .int .i64 20 ∧ wr = w) (fun v7 v8 _ => 0)
  case atStart => exact ⟨rfl, rfl, rfl⟩
  case round =>
    obtain ⟨rfl, rfl, rfl⟩ := hrel
    go_wp2_with fail
    refine HI.out.mono ?_
    rintro e z ⟨rfl, rfl⟩
    clear HI
    go_wp2_with fail
    go_loopw [6] (fun v6 wr => v6 = .int .i64 20 ∧ wr = z) (fun v6 _ => 0)
    case atStart => exact ⟨rfl, rfl⟩
    case round =>
      obtain ⟨rfl, rfl⟩ := hrel
      go_wp2_with fail
      go_end0
      exact ⟨rfl, rfl⟩
set_option maxRecDepth 100000 in
set_option maxHeartbeats 4000000 in
theorem psortS_nil (w : World) : Calls Tryd.prog 79 #[.slice none 0 0, .func (.func 80) #[] #[]] w fun e w' => e = .returned (.tuple #[]) ∧ w' = w := by
  have HI := hid (pstable_nil w)
  go_enter Tryd.func79, Tryd.ntmps79
  go_wp2_with fail
  refine HI.out.mono ?_
  rintro e z ⟨rfl, rfl⟩
  clear HI
  go_wp2_with fail
  go_end0
  exact ⟨rfl, rfl⟩
set_option maxRecDepth 100000 in
set_option maxHeartbeats 4000000 in
theorem psortS_any (w : World) (b n c : Nat) (more : List Value) (L : List Zel) (h : SrtAt w b n more L w) (hn : n ≤ 200000) (hk : ∀ z, z ∈ L → z.1.1 ≤ 1000000) :
    Calls Tryd.prog 79 #[.slice (some ⟨b, 0, none⟩) n c, .func (.func 80) #[] #[]] w (SrtPost w b n more [] L []) := by
  have HI := hid (pstable_any w b n c more L h hn hk)
  clear h hk
  go_enter Tryd.func79, Tryd.ntmps79
  go_wp2_with fail
  refine HI.out.mono ?_
  rintro e z ⟨rfl, hz⟩
  have HZ := hid hz
  clear hz HI
  go_wp2_with fail
  go_end0
  exact ⟨rfl, HZ.out⟩
end Go.Proofs.YtkinnfejgpnddaaDoor
