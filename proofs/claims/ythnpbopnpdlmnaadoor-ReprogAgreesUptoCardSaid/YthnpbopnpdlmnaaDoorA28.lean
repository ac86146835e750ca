/- The program of layer 9: merging two sorted parts of a row in place. -/
import Derived.Test.YthnpbopnpdlmnaaDoorA27
namespace Go.Proofs.YthnpbopnpdlmnaaDoor
open Go.RowKit
attribute [local go_sem] gives givesUpon

theorem SrtAt.trans {w0 w w' : World} {b n : Nat} {more : List Value} {L L' : List Zel} (h : SrtAt w0 b n more L w) (k : SrtAt w b n more L' w') : SrtAt w0 b n more L' w' := ⟨k.1, h.2.1.later k.2.1 (fun _i hi => .inl hi), k.2.2.1, h.2.2.2⟩
def SeekL (i j lo hi : Nat) (L : List Zel) (x : Zel) : Prop := (i = lo ∨ ∃ y, 0 < i ∧ L[i - 1]? = some y ∧ zkey x < zkey y) ∧ (j = hi ∨ ∃ y, L[j]? = some y ∧ zkey y ≤ zkey x)
theorem insL_next (X A : List Zel) (y z : Zel) (B T Z : List Zel) : (insL X A z (y :: B) T Z)[X.length + A.length + 1]? = some y := by
  unfold insL
  have e1 : X ++ A ++ z :: (y :: B) ++ T ++ Z = (X ++ A) ++ (z :: y :: (B ++ T ++ Z)) := by simp
  rw [e1, ← List.length_append, List.getElem?_append_right (by omega), Nat.add_sub_cancel_left]
  rfl
theorem insL_swapR (X A : List Zel) (y z : Zel) (B T Z : List Zel) : ((insL X A z (y :: B) T Z).set (X.length + A.length) y).set (X.length + A.length + 1) z = insL X (A ++ [y]) z B T Z := by
  unfold insL
  have e1 : X ++ (A ++ [y]) ++ z :: B ++ T ++ Z = (X ++ A) ++ (y :: z :: (B ++ T ++ Z)) := by simp
  have e2 : X ++ A ++ z :: (y :: B) ++ T ++ Z = (X ++ A) ++ (z :: y :: (B ++ T ++ Z)) := by simp
  rw [e1, e2, ← List.length_append, List.set_append_right _ _ (Nat.le_refl _), Nat.sub_self, List.set_append_right _ _ (by omega), Nat.add_sub_cancel_left]
  rfl
theorem take_last {α : Type} {l : List α} {t : Nat} {y : α} (h : l[t]? = some y) : (l.take (t + 1)).getLast? = some y := by
  rw [List.take_add_one, h]; simp
theorem drop_head {α : Type} {l : List α} {t : Nat} {y : α} (h : l[t]? = some y) : (l.drop t).head? = some y := by
  rw [List.head?_drop]; exact h
set_option maxRecDepth 100000 in
set_option maxHeartbeats 32000000 in
theorem pmerge_left (w : World) (b n c : Nat) (more : List Value) (X B Z : List Zel) (x : Zel) (h : SrtAt w b n more (X ++ [x] ++ B ++ Z) w) (hd : Desc zkey B) (hn : n ≤ 200000) (hk : ∀ z, z ∈ X ++ [x] ++ B ++ Z → z.1.1 ≤ 1000000) :
    Calls Tryd.prog 65 #[.slice (some ⟨b, 0, none⟩) n c, .int .i64 X.length, .int .i64 ((X.length + 1 : Nat) : Int), .int .i64 ((X.length + 1 + B.length : Nat) : Int), .func (.func 60) #[] #[]] w (SrtPost w b n more X (x :: B) Z) := by
  obtain ⟨a, ha⟩ : ∃ a, a = X.length := ⟨_, rfl⟩
  obtain ⟨m, hm⟩ : ∃ m, m = X.length + 1 := ⟨_, rfl⟩
  obtain ⟨e, he⟩ : ∃ e, e = X.length + 1 + B.length := ⟨_, rfl⟩
  rw [← he, ← hm, ← ha]
  have hen : e ≤ n := by have := h.2.2.1; simp at this; omega
  have hma : m = a + 1 := by omega
  have hme : m ≤ e := by omega
  have h1 : IntKind.i64.wrap ((m : Int) - (a : Int)) = 1 := by rw [IntKind.wrap_i64]; omega
  have HM := hid (⟨ha, hm, he, hma⟩ : _ ∧ _ ∧ _ ∧ _)
  obtain ⟨L, hL⟩ : ∃ L, L = X ++ [x] ++ B ++ Z := ⟨_, rfl⟩
  rw [← hL] at h hk
  have HL := hid hL
  have HH := hid h
  have HK := hid hk
  have HD := hid hd
  have hx6 : x.1.1 ≤ 1000000 := hk x (by rw [hL]; simp)
  have HLB : Hid (∀ t, t < B.length → L[m + t]? = B[t]?) := fun t ht => by
    rw [hL, hm, show X ++ [x] ++ B ++ Z = (X ++ [x]) ++ (B ++ Z) by simp, List.getElem?_append_right (by simp), List.getElem?_append_left (by simp; omega)]
    congr 1
    simp
  have HXA : Hid (L[a]? = some x) := by show _ = _; rw [hL, ha, List.append_assoc, List.append_assoc, List.getElem?_append_right (Nat.le_refl _)]; simp
  have hln : L.length = n := h.2.2.1
  have HLN := hid hln
  obtain ⟨⟨x1, xs⟩, xa, xn, xc⟩ := x
  dsimp only at hx6
  clear h hk hd ha hm he hma hL hln
  go_enter Tryd.func65, Tryd.ntmps65
  go_wp2_with fail
  go_loopw [10, 11] (fun v10 v11 wr => ∃ (i j : Nat), v10 = .int .i64 i ∧ v11 = .int .i64 j ∧ m ≤ i ∧ i ≤ j ∧ j ≤ e ∧ Hid (SrtAt w b n more L wr ∧ SeekL i j m e L ((x1, xs), xa, xn, xc))) (fun v10 v11 _ => (intOf v11).toNat - (intOf v10).toNat)
  case atStart => exact ⟨m, e, rfl, rfl, by omega, by omega, by omega, HH.out, .inl rfl, .inl rfl⟩
  case round =>
    obtain ⟨i, j, rfl, rfl, hmi, hij, hje, HX⟩ := hrel
    by_cases hlt : i < j
    · have hltI : (i : Int) < (j : Int) := by omega
      go_upto_region 5 with fail
      have hhf : ((i : Int) + (j : Int)) / 2 = (((i + j) / 2 : Nat) : Int) := by omega
      rw [hhf]
      clear hhf
      obtain ⟨d, hd⟩ : ∃ d, d = (i + j) / 2 := ⟨_, rfl⟩
      rw [← hd]
      have hid1 : i ≤ d := by omega
      have hdj : d < j := by omega
      have hdn : d < n := by omega
      have hdnI : (d : Int) < (n : Int) := by omega
      have hanI : (a : Int) < (n : Int) := by have := HM.out; omega
      clear hd
      have hdl : d < L.length := by have := HLN.out; omega
      have HYD : Hid (L[d]? = some L[d]) := List.getElem?_eq_getElem hdl
      have hy6 : L[d].1.1 ≤ 1000000 := HK.out _ (List.getElem_mem hdl)
      generalize L[d] = y at HYD hy6
      obtain ⟨⟨y1, ys⟩, ya, yn, yc⟩ := y
      dsimp only at hy6
      have q0 := HX.out.1.cells HXA.out
      have q1 := HX.out.1.cells HYD.out
      have HC := hid (fun (x : World) (hx : Grow wr.drew x) => (⟨(HX.out.1.later (grow_below hx)).cells HXA.out, (HX.out.1.later (grow_below hx)).cells HYD.out⟩ : _ ∧ _))
      dsimp only at HC q0 q1
      refine wp_region_inv 11 (Grow) (by kernel_rfl) (by kernel_rfl) (Grow.refl) (fun _ _ _ => Grow.trans) ?_
      simp only [fill, dstOf, Act.put, List.take_succ_cons, List.take_zero, List.getElem?_toArray, List.getElem?_cons_zero, List.getElem?_cons_succ, Option.bind_some, List.setIfInBounds_toArray, List.set_cons_zero, List.set_cons_succ]
      refine Plan.det 1 rfl (Grow.refl) ?_
      apply Exists.intro
      refine ⟨fun vs x hR hF K hK => ?_, ?_⟩
      · clear hF
        go_simp
        exact hK _ _ (Grow.refl _) rfl
      refine Plan.det 2 rfl (Grow.refl) ?_
      apply Exists.intro
      refine ⟨fun vs x hR hF K hK => ?_, ?_⟩
      · clear hF
        go_simp
        exact hK _ _ (Grow.refl _) rfl
      refine Plan.det 3 rfl (Grow.refl) ?_
      apply Exists.intro
      refine ⟨fun vs x hR hF K hK => ?_, ?_⟩
      · clear hF
        go_simp
        exact hK _ _ (Grow.refl _) rfl
      refine Plan.det 4 rfl (Grow.refl) ?_
      apply Exists.intro
      refine ⟨fun vs x hR hF K hK => ?_, ?_⟩
      · have f1 := hF 1 _ _ rfl rfl; have f2 := hF 0 _ _ rfl rfl; clear hF
        go_simp
        exact hK _ _ (Grow.refl _) rfl
      refine Plan.det 5 rfl (Grow.refl) ?_
      apply Exists.intro
      refine ⟨fun vs x hR hF K hK => ?_, ?_⟩
      · have f3 := hF 0 _ _ rfl rfl; have hc := HC.out x hR; clear hF
        go_simp
        exact hK _ _ (Grow.refl _) rfl
      refine Plan.det 6 rfl (Grow.refl) ?_
      apply Exists.intro
      refine ⟨fun vs x hR hF K hK => ?_, ?_⟩
      · clear hF
        go_simp
        exact hK _ _ (Grow.refl _) rfl
      refine Plan.det 7 rfl (Grow.refl) ?_
      apply Exists.intro
      refine ⟨fun vs x hR hF K hK => ?_, ?_⟩
      · clear hF
        go_simp
        exact hK _ _ (Grow.refl _) rfl
      refine Plan.det 8 rfl (Grow.refl) ?_
      apply Exists.intro
      refine ⟨fun vs x hR hF K hK => ?_, ?_⟩
      · have f5 := hF 1 _ _ rfl rfl; have f6 := hF 0 _ _ rfl rfl; clear hF
        go_simp
        exact hK _ _ (Grow.refl _) rfl
      refine Plan.det 9 rfl (Grow.refl) ?_
      apply Exists.intro
      refine ⟨fun vs x hR hF K hK => ?_, ?_⟩
      · have f7 := hF 0 _ _ rfl rfl; have hc := HC.out x hR; clear hF
        go_simp
        exact hK _ _ (Grow.refl _) rfl
      refine Plan.det 10 rfl (Grow.refl) ?_
      apply Exists.intro
      refine ⟨fun vs x hR hF K hK => ?_, ?_⟩
      · have f0 := hF 8 _ _ rfl rfl; have f4 := hF 4 _ _ rfl rfl; have f8 := hF 0 _ _ rfl rfl; clear hF
        go_simp
        refine (pcmp_any x y1 x1 ya xa yn xn yc xc hy6 hx6).mono ?_
        rintro e x1 ⟨rfl, hbe⟩
        exact ⟨_, rfl, hK _ _ hbe rfl⟩
      refine Plan.det 11 rfl (Grow.refl) ?_
      apply Exists.intro
      refine ⟨fun vs x hR hF K hK => ?_, ?_⟩
      · have f9 := hF 0 _ _ rfl rfl; clear hF
        go_simp
        exact hK _ _ (Grow.refl _) rfl
      refine Plan.nil (fun vs x hR hF => ?_)
      have f0 := hF 10 _ _ rfl; have f1 := hF 9 _ _ rfl; have f2 := hF 8 _ _ rfl; have f3 := hF 7 _ _ rfl; have f4 := hF 6 _ _ rfl; have f5 := hF 5 _ _ rfl; have f6 := hF 4 _ _ rfl; have f7 := hF 3 _ _ rfl; have f8 := hF 2 _ _ rfl; have f9 := hF 1 _ _ rfl; have f10 := hF 0 _ _ rfl
      clear hF
      simp only [f0, f1, f2, f3, f4, f5, f6, f7, f8, f9, f10]
      clear f0 f1 f2 f3 f4 f5 f6 f7 f8 f9 f10
      simp only [List.drop_succ_cons, List.drop_zero]
      have HX2 := hid (HX.out.1.later (grow_below hR))
      have HSK := hid HX.out.2
      clear HC q0 q1 hR HX
      by_cases hc : (x1 : Int) - (y1 : Int) < 0
      · have HN : Hid (SrtAt w b n more L x ∧ SeekL (d + 1) j m e L ((x1, xs), xa, xn, xc)) := ⟨HX2.out, .inr ⟨_, by omega, HYD.out, by show (x1 : Int) < y1; omega⟩, HSK.out.2⟩
        clear HX2 HSK
        go_wp2_with fail
        refine ⟨⟨d + 1, j, by go_num, rfl, by omega, by omega, by omega, HN.out⟩, ?_⟩
        simp [intOf] <;> omega
      · have HN : Hid (SrtAt w b n more L x ∧ SeekL i d m e L ((x1, xs), xa, xn, xc)) := ⟨HX2.out, HSK.out.1, .inr ⟨_, HYD.out, by show (y1 : Int) ≤ x1; omega⟩⟩
        clear HX2 HSK
        go_wp2_with fail
        refine ⟨⟨i, d, rfl, rfl, by omega, by omega, by omega, HN.out⟩, ?_⟩
        simp [intOf] <;> omega
    · obtain rfl : i = j := by omega
      have hltI : ¬ (i : Int) < (i : Int) := by omega
      have HSK := hid HX.out.2
      have HST : Hid (SrtAt w b n more (insL X (B.take 0) ((x1, xs), xa, xn, xc) (B.drop 0) [] Z) wr) := by
        have e0 : insL X (B.take 0) ((x1, xs), xa, xn, xc) (B.drop 0) [] Z = L := by rw [HL.out]; unfold insL; simp
        unfold Hid
        rw [e0]; exact HX.out.1
      have hi1 : IntKind.i64.wrap ((i : Int) - 1) = ((i - 1 : Nat) : Int) := by rw [IntKind.wrap_i64]; have := HM.out; omega
      clear HX HH
      go_wp2_with fail
      go_loopw [13] (fun v13 wr => ∃ (t : Nat), v13 = .int .i64 ((a + t : Nat) : Int) ∧ t ≤ i - m ∧ Hid (SrtAt w b n more (insL X (B.take t) ((x1, xs), xa, xn, xc) (B.drop t) [] Z) wr)) (fun v13 _ => i - (intOf v13).toNat)
      case atStart => exact ⟨0, by simp, by omega, HST.out⟩
      case round =>
        obtain ⟨t, rfl, hti, HY⟩ := hrel
        by_cases hlt : a + t < i - 1
        · have hltI : ((a + t : Nat) : Int) < ((i - 1 : Nat) : Int) := by omega
          have htb : t < B.length := by have := HM.out; omega
          have htm : t + 1 ≤ i - m := by have := HM.out; omega
          have hta : a + t + 1 < n := by omega
          have HYD : Hid (B[t]? = some B[t]) := List.getElem?_eq_getElem htb
          generalize B[t] = y at HYD
          have hdr : B.drop t = y :: B.drop (t + 1) := by
            rw [List.drop_eq_getElem_cons htb]
            congr 1
            exact Option.some.inj ((List.getElem?_eq_getElem htb).symm.trans HYD.out)
          have htl : (B.take t).length = t := by rw [List.length_take]; omega
          have hat := insL_at X (B.take t) ((x1, xs), xa, xn, xc) (B.drop t) [] Z
          have hnx := insL_next X (B.take t) y ((x1, xs), xa, xn, xc) (B.drop (t + 1)) [] Z
          have hsw := insL_swapR X (B.take t) y ((x1, xs), xa, xn, xc) (B.drop (t + 1)) [] Z
          rw [← hdr] at hnx hsw
          rw [htl, ← HM.out.1] at hat hnx hsw
          rw [show B.take t ++ [y] = B.take (t + 1) by rw [List.take_add_one, HYD.out]; rfl] at hsw
          have hput := (HY.out.put y (k := a + t) (by omega)).put ((x1, xs), xa, xn, xc) (k := a + t + 1) (by omega)
          rw [hsw] at hput
          have q0 := HY.out.cells hat
          have q1 := HY.out.cells hnx
          obtain ⟨⟨y1, ys⟩, ya, yn, yc⟩ := y
          dsimp only at q0 q1 hput
          have HPUT := hid hput
          obtain ⟨k, hk⟩ : ∃ k, k = a + t := ⟨_, rfl⟩
          have f0 := HY.out.free (k * 2)
          have f1 := HY.out.free (k * 2 + 1)
          have f2 := HY.out.free ((k + 1) * 2)
          have f3 := HY.out.free ((k + 1) * 2 + 1)
          rw [← hk] at q0 q1 HPUT hltI hta ⊢
          have hkn : (k : Int) < (n : Int) := by omega
          have hkn1 : 0 ≤ (k : Int) + 1 ∧ (k : Int) + 1 < (n : Int) := by omega
          have HKK := hid hk
          clear hdr htl hat hnx hsw hput HY hk
          go_wp2_with fail
          go_region
          all_goals
            go_wp2_with fail
            have hkk := HKK.out
            refine ⟨⟨t + 1, by rw [hkk]; go_num, by omega, HPUT.out.later ((Below.refl _ _).drew)⟩, ?_⟩
            simp [intOf]
            omega
        · have hltI : ¬ ((a + t : Nat) : Int) < ((i - 1 : Nat) : Int) := by omega
          obtain rfl : t = i - m := by have := HM.out; omega
          obtain ⟨hm1, hm2, hm3, hm4⟩ := HM.out
          have hdd : Desc zkey (B.take (i - m) ++ B.drop (i - m)) := by rw [List.take_append_drop]; exact HD.out
          obtain ⟨hd2, hs2⟩ := insert_left (x := ((x1, xs), xa, xn, xc)) hdd (by
            rcases HSK.out.1 with h5 | ⟨y, h5, h6, h7⟩
            · left; rw [h5, Nat.sub_self]; rfl
            · by_cases h8 : i = m
              · left; rw [h8, Nat.sub_self]; rfl
              · right
                refine ⟨y, ?_, h7⟩
                have h9 := HLB.out (i - m - 1) (by omega)
                rw [show m + (i - m - 1) = i - 1 by omega, h6] at h9
                have := take_last h9.symm
                rwa [show i - m - 1 + 1 = i - m by omega] at this) (by
            rcases HSK.out.2 with h5 | ⟨y, h6, h7⟩
            · left; exact List.drop_of_length_le (by omega)
            · by_cases h8 : i = e
              · left; exact List.drop_of_length_le (by omega)
              · right
                refine ⟨y, ?_, h7⟩
                have h9 := HLB.out (i - m) (by omega)
                rw [show m + (i - m) = i by omega, h6] at h9
                exact drop_head h9.symm)
          have HF : Hid (SrtPost w b n more X (((x1, xs), xa, xn, xc) :: B) Z (.returned (.tuple #[])) wr) := by
            refine ⟨rfl, _, ?_, hd2, ?_⟩
            · have e0 : X ++ (B.take (i - m) ++ ((x1, xs), xa, xn, xc) :: B.drop (i - m)) ++ Z = insL X (B.take (i - m)) ((x1, xs), xa, xn, xc) (B.drop (i - m)) [] Z := by unfold insL; simp
              rw [e0]; exact HY.out
            · rw [List.take_append_drop] at hs2; exact hs2
          clear hdd hd2 hs2 hm1 hm2 hm3 hm4 HY
          go_wp2_with fail
          go_end0
          exact HF.out
end Go.Proofs.YthnpbopnpdlmnaaDoor

/- The program of layer 9: merging one element behind a sorted part. -/
namespace Go.Proofs.YthnpbopnpdlmnaaDoor
open Go.RowKit
attribute [local go_sem] gives givesUpon

def SeekR (i j lo hi : Nat) (L : List Zel) (x : Zel) : Prop := (i = lo ∨ ∃ y, 0 < i ∧ L[i - 1]? = some y ∧ zkey x ≤ zkey y) ∧ (j = hi ∨ ∃ y, L[j]? = some y ∧ zkey y < zkey x)
set_option maxRecDepth 100000 in
set_option maxHeartbeats 32000000 in
theorem pmerge_right (w : World) (b n c : Nat) (more : List Value) (X A Z : List Zel) (x : Zel) (h : SrtAt w b n more (X ++ A ++ [x] ++ Z) w) (hA : 2 ≤ A.length) (hd : Desc zkey A) (hn : n ≤ 200000) (hk : ∀ z, z ∈ X ++ A ++ [x] ++ Z → z.1.1 ≤ 1000000) :
    Calls Tryd.prog 65 #[.slice (some ⟨b, 0, none⟩) n c, .int .i64 X.length, .int .i64 ((X.length + A.length : Nat) : Int), .int .i64 ((X.length + A.length + 1 : Nat) : Int), .func (.func 60) #[] #[]] w (SrtPost w b n more X (A ++ [x]) Z) := by
  obtain ⟨a, ha⟩ : ∃ a, a = X.length := ⟨_, rfl⟩
  obtain ⟨m, hm⟩ : ∃ m, m = X.length + A.length := ⟨_, rfl⟩
  obtain ⟨e, he⟩ : ∃ e, e = X.length + A.length + 1 := ⟨_, rfl⟩
  rw [← he, ← hm, ← ha]
  have hen : e ≤ n := by have := h.2.2.1; simp at this; omega
  have hma : a + 2 ≤ m := by omega
  have hme : e = m + 1 := by omega
  have h1 : (wrap64 ((m : Int) - (a : Int)) == 1) = false := by
    have : wrap64 ((m : Int) - (a : Int)) ≠ 1 := by unfold wrap64; omega
    exact beq_eq_false_iff_ne.2 this
  have h2 : IntKind.i64.wrap ((e : Int) - (m : Int)) = 1 := by rw [IntKind.wrap_i64]; omega
  have HM := hid (⟨ha, hm, he, hme⟩ : _ ∧ _ ∧ _ ∧ _)
  obtain ⟨L, hL⟩ : ∃ L, L = X ++ A ++ [x] ++ Z := ⟨_, rfl⟩
  rw [← hL] at h hk
  have HL := hid hL
  have HH := hid h
  have HK := hid hk
  have HD := hid hd
  have hx6 : x.1.1 ≤ 1000000 := hk x (by rw [hL]; simp)
  have HXA : Hid (L[m]? = some x) := by show _ = _; rw [hL, hm, List.append_assoc, ← List.length_append, List.getElem?_append_right (Nat.le_refl _)]; simp
  have HLB : Hid (∀ t, t < A.length → L[a + t]? = A[t]?) := fun t ht => by
    rw [hL, ha, List.append_assoc, List.append_assoc, List.getElem?_append_right (by omega), List.getElem?_append_left (by omega)]
    congr 1
    omega
  have hln : L.length = n := h.2.2.1
  have HLN := hid hln
  obtain ⟨⟨x1, xs⟩, xa, xn, xc⟩ := x
  dsimp only at hx6
  clear h hk hd ha hm he hme hL hln hA
  go_enter Tryd.func65, Tryd.ntmps65
  go_wp2_with fail
  go_loopw [14, 15] (fun v14 v15 wr => ∃ (i j : Nat), v14 = .int .i64 i ∧ v15 = .int .i64 j ∧ a ≤ i ∧ i ≤ j ∧ j ≤ m ∧ Hid (SrtAt w b n more L wr ∧ SeekR i j a m L ((x1, xs), xa, xn, xc))) (fun v14 v15 _ => (intOf v15).toNat - (intOf v14).toNat)
  case atStart => exact ⟨a, m, rfl, rfl, by omega, by omega, by omega, HH.out, .inl rfl, .inl rfl⟩
  case round =>
    obtain ⟨i, j, rfl, rfl, hmi, hij, hje, HX⟩ := hrel
    by_cases hlt : i < j
    · have hltI : (i : Int) < (j : Int) := by omega
      have hmn : m < n := by have := HM.out; omega
      go_upto_region 17 with fail
      have hhf : ((i : Int) + (j : Int)) / 2 = (((i + j) / 2 : Nat) : Int) := by omega
      rw [hhf]
      clear hhf
      obtain ⟨d, hd⟩ : ∃ d, d = (i + j) / 2 := ⟨_, rfl⟩
      rw [← hd]
      have hid1 : i ≤ d := by omega
      have hdj : d < j := by omega
      have hdn : d < n := by omega
      have hdnI : (d : Int) < (n : Int) := by omega
      have hmnI : (m : Int) < (n : Int) := by omega
      clear hd
      have hdl : d < L.length := by have := HLN.out; omega
      have HYD : Hid (L[d]? = some L[d]) := List.getElem?_eq_getElem hdl
      have hy6 : L[d].1.1 ≤ 1000000 := HK.out _ (List.getElem_mem hdl)
      generalize L[d] = y at HYD hy6
      obtain ⟨⟨y1, ys⟩, ya, yn, yc⟩ := y
      dsimp only at hy6
      have q0 := HX.out.1.cells HXA.out
      have q1 := HX.out.1.cells HYD.out
      have HC := hid (fun (x : World) (hx : Grow wr.drew x) => (⟨(HX.out.1.later (grow_below hx)).cells HXA.out, (HX.out.1.later (grow_below hx)).cells HYD.out⟩ : _ ∧ _))
      dsimp only at HC q0 q1
      refine wp_region_inv 12 (Grow) (by kernel_rfl) (by kernel_rfl) (Grow.refl) (fun _ _ _ => Grow.trans) ?_
      simp only [fill, dstOf, Act.put, List.take_succ_cons, List.take_zero, List.getElem?_toArray, List.getElem?_cons_zero, List.getElem?_cons_succ, Option.bind_some, List.setIfInBounds_toArray, List.set_cons_zero, List.set_cons_succ]
      refine Plan.det 1 rfl (Grow.refl) ?_
      apply Exists.intro
      refine ⟨fun vs x hR hF K hK => ?_, ?_⟩
      · clear hF
        go_simp
        exact hK _ _ (Grow.refl _) rfl
      refine Plan.det 2 rfl (Grow.refl) ?_
      apply Exists.intro
      refine ⟨fun vs x hR hF K hK => ?_, ?_⟩
      · clear hF
        go_simp
        exact hK _ _ (Grow.refl _) rfl
      refine Plan.det 3 rfl (Grow.refl) ?_
      apply Exists.intro
      refine ⟨fun vs x hR hF K hK => ?_, ?_⟩
      · clear hF
        go_simp
        exact hK _ _ (Grow.refl _) rfl
      refine Plan.det 4 rfl (Grow.refl) ?_
      apply Exists.intro
      refine ⟨fun vs x hR hF K hK => ?_, ?_⟩
      · have f1 := hF 1 _ _ rfl rfl; have f2 := hF 0 _ _ rfl rfl; clear hF
        go_simp
        exact hK _ _ (Grow.refl _) rfl
      refine Plan.det 5 rfl (Grow.refl) ?_
      apply Exists.intro
      refine ⟨fun vs x hR hF K hK => ?_, ?_⟩
      · have f3 := hF 0 _ _ rfl rfl; have hc := HC.out x hR; clear hF
        go_simp
        exact hK _ _ (Grow.refl _) rfl
      refine Plan.det 6 rfl (Grow.refl) ?_
      apply Exists.intro
      refine ⟨fun vs x hR hF K hK => ?_, ?_⟩
      · clear hF
        go_simp
        exact hK _ _ (Grow.refl _) rfl
      refine Plan.det 7 rfl (Grow.refl) ?_
      apply Exists.intro
      refine ⟨fun vs x hR hF K hK => ?_, ?_⟩
      · clear hF
        go_simp
        exact hK _ _ (Grow.refl _) rfl
      refine Plan.det 8 rfl (Grow.refl) ?_
      apply Exists.intro
      refine ⟨fun vs x hR hF K hK => ?_, ?_⟩
      · have f5 := hF 1 _ _ rfl rfl; have f6 := hF 0 _ _ rfl rfl; clear hF
        go_simp
        exact hK _ _ (Grow.refl _) rfl
      refine Plan.det 9 rfl (Grow.refl) ?_
      apply Exists.intro
      refine ⟨fun vs x hR hF K hK => ?_, ?_⟩
      · have f7 := hF 0 _ _ rfl rfl; have hc := HC.out x hR; clear hF
        go_simp
        exact hK _ _ (Grow.refl _) rfl
      refine Plan.det 10 rfl (Grow.refl) ?_
      apply Exists.intro
      refine ⟨fun vs x hR hF K hK => ?_, ?_⟩
      · have f0 := hF 8 _ _ rfl rfl; have f4 := hF 4 _ _ rfl rfl; have f8 := hF 0 _ _ rfl rfl; clear hF
        go_simp
        refine (pcmp_any x x1 y1 xa ya xn yn xc yc hx6 hy6).mono ?_
        rintro e x1 ⟨rfl, hbe⟩
        exact ⟨_, rfl, hK _ _ hbe rfl⟩
      refine Plan.det 11 rfl (Grow.refl) ?_
      apply Exists.intro
      refine ⟨fun vs x hR hF K hK => ?_, ?_⟩
      · have f9 := hF 0 _ _ rfl rfl; clear hF
        go_simp
        exact hK _ _ (Grow.refl _) rfl
      refine Plan.det 12 rfl (Grow.refl) ?_
      apply Exists.intro
      refine ⟨fun vs x hR hF K hK => ?_, ?_⟩
      · have f10 := hF 0 _ _ rfl rfl; clear hF
        go_simp
        exact hK _ _ (Grow.refl _) rfl
      refine Plan.nil (fun vs x hR hF => ?_)
      have f0 := hF 11 _ _ rfl; have f1 := hF 10 _ _ rfl; have f2 := hF 9 _ _ rfl; have f3 := hF 8 _ _ rfl; have f4 := hF 7 _ _ rfl; have f5 := hF 6 _ _ rfl; have f6 := hF 5 _ _ rfl; have f7 := hF 4 _ _ rfl; have f8 := hF 3 _ _ rfl; have f9 := hF 2 _ _ rfl; have f10 := hF 1 _ _ rfl; have f11 := hF 0 _ _ rfl
      clear hF
      simp only [f0, f1, f2, f3, f4, f5, f6, f7, f8, f9, f10, f11]
      clear f0 f1 f2 f3 f4 f5 f6 f7 f8 f9 f10 f11
      simp only [List.drop_succ_cons, List.drop_zero]
      have HX2 := hid (HX.out.1.later (grow_below hR))
      have HSK := hid HX.out.2
      clear HC q0 q1 hR HX
      by_cases hc : (y1 : Int) - (x1 : Int) < 0
      · have HN : Hid (SrtAt w b n more L x ∧ SeekR i d a m L ((x1, xs), xa, xn, xc)) := ⟨HX2.out, HSK.out.1, .inr ⟨_, HYD.out, by show (y1 : Int) < x1; omega⟩⟩
        clear HX2 HSK
        rw [decide_eq_true hc]
        go_wp2_with fail
        refine ⟨⟨i, d, rfl, rfl, by omega, by omega, by omega, HN.out⟩, ?_⟩
        simp [intOf] <;> omega
      · have HN : Hid (SrtAt w b n more L x ∧ SeekR (d + 1) j a m L ((x1, xs), xa, xn, xc)) := ⟨HX2.out, .inr ⟨_, by omega, HYD.out, by show (x1 : Int) ≤ y1; omega⟩, HSK.out.2⟩
        clear HX2 HSK
        rw [decide_eq_false hc]
        go_wp2_with fail
        refine ⟨⟨d + 1, j, by go_num, rfl, by omega, by omega, by omega, HN.out⟩, ?_⟩
        simp [intOf] <;> omega
    · obtain rfl : i = j := by omega
      have hltI : ¬ (i : Int) < (i : Int) := by omega
      have HSK := hid HX.out.2
      have HST : Hid (SrtAt w b n more (insL X (A.take (m - a)) ((x1, xs), xa, xn, xc) (A.drop (m - a)) [] Z) wr) := by
        have hma2 : m - a = A.length := by have := HM.out; omega
        have e0 : insL X (A.take (m - a)) ((x1, xs), xa, xn, xc) (A.drop (m - a)) [] Z = L := by rw [HL.out, hma2]; unfold insL; simp
        unfold Hid
        rw [e0]; exact HX.out.1
      clear HX HH
      go_wp2_with fail
      go_loopw [17] (fun v17 wr => ∃ (t : Nat), v17 = .int .i64 ((a + t : Nat) : Int) ∧ i ≤ a + t ∧ t ≤ m - a ∧ Hid (SrtAt w b n more (insL X (A.take t) ((x1, xs), xa, xn, xc) (A.drop t) [] Z) wr)) (fun v17 _ => (intOf v17).toNat)
      case atStart => exact ⟨m - a, by rw [show a + (m - a) = m by omega], by omega, by omega, HST.out⟩
      case round =>
        obtain ⟨t, rfl, hit, hti, HY⟩ := hrel
        by_cases hlt : i < a + t
        · obtain ⟨s, rfl⟩ : ∃ s, t = s + 1 := ⟨t - 1, by omega⟩
          have hsb : s < A.length := by have := HM.out; omega
          have hta : a + s + 1 < n := by have := HM.out; omega
          have HYD : Hid (A[s]? = some A[s]) := List.getElem?_eq_getElem hsb
          generalize A[s] = y at HYD
          have hdr : y :: A.drop (s + 1) = A.drop s := by
            rw [List.drop_eq_getElem_cons hsb]
            congr 1
            exact (Option.some.inj ((List.getElem?_eq_getElem hsb).symm.trans HYD.out)).symm
          have htk : A.take (s + 1) = A.take s ++ [y] := by rw [List.take_add_one, HYD.out]; rfl
          have htl : (A.take s).length = s := by rw [List.length_take]; omega
          have hst0 := HY.out
          rw [htk] at hst0
          have hat := insL_at X (A.take s ++ [y]) ((x1, xs), xa, xn, xc) (A.drop (s + 1)) [] Z
          have hnx := insL_prev X (A.take s) y ((x1, xs), xa, xn, xc) (A.drop (s + 1)) [] Z
          have hsw := insL_swap X (A.take s) y ((x1, xs), xa, xn, xc) (A.drop (s + 1)) [] Z
          rw [List.length_append, htl, ← HM.out.1, ← Nat.add_assoc] at hat
          rw [htl, ← HM.out.1] at hnx hsw
          rw [hdr] at hsw
          have hput := (hst0.put y (k := a + s + 1) (by omega)).put ((x1, xs), xa, xn, xc) (k := a + s) (by omega)
          rw [hsw] at hput
          have q0 := hst0.cells hat
          have q1 := hst0.cells hnx
          obtain ⟨⟨y1, ys⟩, ya, yn, yc⟩ := y
          dsimp only [List.length_cons, List.length_nil] at q0 q1 hput
          have HPUT := hid hput
          obtain ⟨k, hk⟩ : ∃ k, k = a + s := ⟨_, rfl⟩
          have f0 := hst0.free (k * 2)
          have f1 := hst0.free (k * 2 + 1)
          have f2 := hst0.free ((k + 1) * 2)
          have f3 := hst0.free ((k + 1) * 2 + 1)
          rw [show a + (s + 1) = k + 1 by omega]
          rw [← hk] at q0 q1 HPUT hta
          have hkn : (k : Int) < (n : Int) := by omega
          have hkn1 : 0 ≤ (k : Int) + 1 ∧ (k : Int) + 1 < (n : Int) := by omega
          have hltI : (i : Int) < (k : Int) + 1 := by omega
          have hwk : IntKind.i64.wrap (k : Int) = (k : Int) := by rw [IntKind.wrap_i64]; omega
          have hik : i ≤ k := by omega
          have hsm : s ≤ m - a := by omega
          have HKK := hid hk
          clear hdr htk htl hat hnx hsw hput HY hk hst0
          go_wp2_with fail
          go_region
          all_goals
            go_wp2_with fail
            refine ⟨⟨s, by rw [HKK.out], by have := HKK.out; omega, by omega, HPUT.out.later ((Below.refl _ _).drew)⟩, ?_⟩
            simp [intOf] <;> omega
        · have hltI : ¬ (i : Int) < ((a + t : Nat) : Int) := by omega
          obtain ⟨hm1, hm2, hm3, hm4⟩ := HM.out
          have hti2 : t = i - a := by omega
          have hdd : Desc zkey (A.take t ++ A.drop t) := by rw [List.take_append_drop]; exact HD.out
          obtain ⟨hd2, hs2⟩ := insert_right (x := ((x1, xs), xa, xn, xc)) hdd (by
            rcases HSK.out.1 with h5 | ⟨y, h5, h6, h7⟩
            · left; rw [show t = 0 by omega]; rfl
            · by_cases h8 : i = a
              · left; rw [show t = 0 by omega]; rfl
              · right
                refine ⟨y, ?_, h7⟩
                have h9 := HLB.out (t - 1) (by omega)
                rw [show a + (t - 1) = i - 1 by omega, h6] at h9
                have := take_last h9.symm
                rwa [show t - 1 + 1 = t by omega] at this) (by
            rcases HSK.out.2 with h5 | ⟨y, h6, h7⟩
            · left; exact List.drop_of_length_le (by omega)
            · by_cases h8 : i = m
              · left; exact List.drop_of_length_le (by omega)
              · right
                refine ⟨y, ?_, h7⟩
                have h9 := HLB.out t (by omega)
                rw [show a + t = i by omega, h6] at h9
                exact drop_head h9.symm)
          have HF : Hid (SrtPost w b n more X (A ++ [((x1, xs), xa, xn, xc)]) Z (.returned (.tuple #[])) wr) := by
            refine ⟨rfl, _, ?_, hd2, ?_⟩
            · have e0 : X ++ (A.take t ++ ((x1, xs), xa, xn, xc) :: A.drop t) ++ Z = insL X (A.take t) ((x1, xs), xa, xn, xc) (A.drop t) [] Z := by unfold insL; simp
              rw [e0]; exact HY.out
            · rw [List.take_append_drop] at hs2; exact hs2
          clear hdd hd2 hs2 hm1 hm2 hm3 hm4 HY hti2
          go_wp2_with fail
          go_end0
          exact HF.out
end Go.Proofs.YthnpbopnpdlmnaaDoor
