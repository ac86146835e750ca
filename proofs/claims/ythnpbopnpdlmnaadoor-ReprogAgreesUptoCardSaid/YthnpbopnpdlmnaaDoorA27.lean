/- The program of layer 9: insertion sort of parses. -/
import Derived.Test.YthnpbopnpdlmnaaDoorA26
namespace Go.Proofs.YthnpbopnpdlmnaaDoor
open Go.RowKit
attribute [local go_sem] gives givesUpon

def insL (X A : List Zel) (z : Zel) (B T Z : List Zel) : List Zel := X ++ A ++ z :: B ++ T ++ Z
theorem insL_at (X A : List Zel) (z : Zel) (B T Z : List Zel) : (insL X A z B T Z)[X.length + A.length]? = some z := by
  unfold insL
  rw [List.getElem?_append_left (by simp), List.getElem?_append_left (by simp), List.getElem?_append_right (by simp), List.length_append]
  simp
theorem insL_prev (X A : List Zel) (y z : Zel) (B T Z : List Zel) : (insL X (A ++ [y]) z B T Z)[X.length + A.length]? = some y := by
  unfold insL
  rw [List.getElem?_append_left (by simp), List.getElem?_append_left (by simp), List.getElem?_append_left (by simp), ← List.append_assoc, List.getElem?_append_right (by simp), List.length_append]
  simp
theorem insL_swap (X A : List Zel) (y z : Zel) (B T Z : List Zel) : ((insL X (A ++ [y]) z B T Z).set (X.length + A.length + 1) y).set (X.length + A.length) z = insL X A z (y :: B) T Z := by
  unfold insL
  have e1 : X ++ (A ++ [y]) ++ z :: B ++ T ++ Z = (X ++ A) ++ (y :: z :: (B ++ T ++ Z)) := by simp
  have e2 : X ++ A ++ z :: (y :: B) ++ T ++ Z = (X ++ A) ++ (z :: y :: (B ++ T ++ Z)) := by simp
  rw [e1, e2, List.set_append_right _ _ (by simp), List.set_append_right _ _ (by simp)]
  simp
def SrtPost (w : World) (b n : Nat) (more : List Value) (X Y Z : List Zel) (e : Ending) (w' : World) : Prop := e = .returned (.tuple #[]) ∧ ∃ Y', SrtAt w b n more (X ++ Y' ++ Z) w' ∧ Desc zkey Y' ∧ SameF zkey Y Y'
set_option maxRecDepth 100000 in
set_option maxHeartbeats 16000000 in
theorem pinsert_any (w : World) (b n c : Nat) (more : List Value) (X Y Z : List Zel) (h : SrtAt w b n more (X ++ Y ++ Z) w) (hn : n ≤ 200000) (hk : ∀ z, z ∈ X ++ Y ++ Z → z.1.1 ≤ 1000000) :
    Calls Tryd.prog 64 #[.slice (some ⟨b, 0, none⟩) n c, .int .i64 X.length, .int .i64 ((X.length + Y.length : Nat) : Int), .func (.func 60) #[] #[]] w (SrtPost w b n more X Y Z) := by
  obtain ⟨a, ha⟩ : ∃ a, a = X.length := ⟨_, rfl⟩
  obtain ⟨e, he⟩ : ∃ e, e = X.length + Y.length := ⟨_, rfl⟩
  rw [← he, ← ha]
  have hen : e ≤ n := by have := h.2.2.1; rw [List.length_append, List.length_append] at this; omega
  have hae : a ≤ e := by omega
  have HA := hid ha
  have HE := hid he
  have HH := hid h
  have HK := hid hk
  clear h hk ha he
  go_enter Tryd.func64, Tryd.ntmps64
  go_wp2_with fail
  go_loopw [8] (fun v8 wr => ∃ (i : Nat) (S T : List Zel), v8 = .int .i64 i ∧ a < i ∧ i ≤ e + 1 ∧ Hid (SrtAt w b n more (X ++ S ++ T ++ Z) wr ∧ Desc zkey S ∧ SameF zkey Y (S ++ T) ∧ S.length = min (i - a) Y.length)) (fun v8 _ => e + 1 - (intOf v8).toNat)
  case atStart =>
    refine ⟨a + 1, Y.take 1, Y.drop 1, by go_num, by omega, by omega, ?_, ?_, ?_, ?_⟩
    · have e0 : X ++ Y.take 1 ++ Y.drop 1 ++ Z = X ++ Y ++ Z := by rw [List.append_assoc X, List.take_append_drop]
      rw [e0]; exact HH.out
    · cases Y with
      | nil => exact List.Pairwise.nil
      | cons y Y => simp [Desc]
    · rw [List.take_append_drop]; exact SameF.refl _
    · rw [List.length_take]; omega
  case round =>
    obtain ⟨i, S, T, rfl, hai, hie, HX⟩ := hrel
    obtain ⟨h0, h1, h2, h3⟩ := HX.out
    have hlen := h2.length
    rw [List.length_append] at hlen
    by_cases hlt : i < e
    · have hltI : (i : Int) < (e : Int) := by omega
      have hYl : e = a + Y.length := by have := HA.out; have := HE.out; omega
      have hSl : S.length = i - a := by omega
      cases T with
      | nil => simp at hlen; omega
      | cons z T =>
      have HS := hid (⟨h1, h2, hSl⟩ : _ ∧ _ ∧ _)
      have HKS : Hid (∀ u, u ∈ S ++ z :: T → u.1.1 ≤ 1000000) := fun u hu => HK.out u (by have := h2.symm.mem hu; simp [this])
      have HST : Hid (SrtAt w b n more (insL X S z [] T Z) wr) := by
        have e0 : insL X S z [] T Z = X ++ S ++ z :: T ++ Z := by unfold insL; simp
        unfold Hid
        rw [e0]; exact h0
      have hwi : IntKind.i64.wrap ((i : Int) + 1) = (i : Int) + 1 := by rw [IntKind.wrap_i64]; omega
      clear h0 h1 h2 h3 hlen HX hYl
      go_wp2_with fail
      go_loopw [9] (fun v9 wr => ∃ (j : Nat) (A B : List Zel), v9 = .int .i64 j ∧ a ≤ j ∧ j ≤ i ∧ Hid (SrtAt w b n more (insL X A z B T Z) wr ∧ S = A ++ B ∧ (B = [] ∨ ∃ y, B.head? = some y ∧ zkey y < zkey z) ∧ j = a + A.length)) (fun v9 _ => (intOf v9).toNat)
      case atStart => exact ⟨i, S, [], rfl, by omega, Nat.le_refl _, HST.out, by simp, .inl rfl, by have := HS.out.2.2; omega⟩
      case round =>
        obtain ⟨j, A, B, rfl, haj, hji, HY⟩ := hrel
        obtain ⟨h0, h1, h2, h3⟩ := HY.out
        have hXa := HA.out
        have hin : i < n := by omega
        by_cases hja : a < j
        · have hjaI : (a : Int) < (j : Int) := by omega
          obtain ⟨A0, y, rfl⟩ : ∃ A0 y, A = A0 ++ [y] := by
            rcases List.eq_nil_or_concat A with rfl | ⟨A0, y, rfl⟩
            · simp at h3; omega
            · exact ⟨A0, y, by simp⟩
          obtain ⟨k, rfl⟩ : ∃ k, j = k + 1 := ⟨j - 1, by omega⟩
          have hka : k = X.length + A0.length := by rw [List.length_append] at h3; simp at h3; omega
          have hkn : k + 1 < n := by omega
          have HZ1 : Hid ((insL X (A0 ++ [y]) z B T Z)[k + 1]? = some z) := by
            have := insL_at X (A0 ++ [y]) z B T Z
            rw [List.length_append, ← Nat.add_assoc, ← hka] at this
            exact this
          have HY1 : Hid ((insL X (A0 ++ [y]) z B T Z)[k]? = some y) := by
            have := insL_prev X A0 y z B T Z
            rw [← hka] at this
            exact this
          have hz6 : z.1.1 ≤ 1000000 := HKS.out z (by simp)
          have hy6 : y.1.1 ≤ 1000000 := HKS.out y (by rw [h1]; simp)
          have hwk : IntKind.i64.wrap (k : Int) = (k : Int) := by rw [IntKind.wrap_i64]; omega
          have hbn1 : 0 ≤ (k : Int) + 1 ∧ (k : Int) + 1 < (n : Int) := by omega
          have hbn0 : (k : Int) < (n : Int) := by omega
          have hjaK : (a : Int) < (k : Int) + 1 := by omega
          have HG := hid (⟨h0, h1, h2, hka⟩ : _ ∧ _ ∧ _ ∧ _)
          obtain ⟨⟨z1, zs⟩, za, zn, zc⟩ := z
          obtain ⟨⟨y1, ys⟩, ya, yn, yc⟩ := y
          dsimp only at hz6 hy6
          have HC := hid (fun (x : World) (hx : Grow wr.drew x) => (⟨(HG.out.1.later (grow_below hx)).cells HZ1.out, (HG.out.1.later (grow_below hx)).cells HY1.out⟩ : _ ∧ _))
          have q0 := HG.out.1.cells HZ1.out
          have q1 := HG.out.1.cells HY1.out
          dsimp only at HC q0 q1
          clear h0 h1 h2 h3 hka HY hXa hjaI
          go_wp2_with fail
          refine wp_region_inv 17 (Grow) (by kernel_rfl) (by kernel_rfl) (Grow.refl) (fun _ _ _ => Grow.trans) ?_
          simp only [fill, dstOf, Act.put, List.take_succ_cons, List.take_zero, List.getElem?_toArray, List.getElem?_cons_zero, List.getElem?_cons_succ, Option.bind_some, List.setIfInBounds_toArray, List.set_cons_zero, List.set_cons_succ]
          refine Plan.det 1 rfl (Grow.refl) ?_
          apply Exists.intro
          refine ⟨fun vs x hR hF K hK => ?_, ?_⟩
          · clear hF
            go_simp
            exact hK _ _ (Grow.refl _) rfl
          refine Plan.det 2 rfl (Grow.refl) ?_
          apply Exists.intro
          refine ⟨fun vs x hR hF K hK => ?_, ?_⟩
          · clear hF
            go_simp
            exact hK _ _ (Grow.refl _) rfl
          refine Plan.det 3 rfl (Grow.refl) ?_
          apply Exists.intro
          refine ⟨fun vs x hR hF K hK => ?_, ?_⟩
          · have f0 := hF 1 _ _ rfl rfl; have f1 := hF 0 _ _ rfl rfl; clear hF
            go_simp
            exact hK _ _ (Grow.refl _) rfl
          refine Plan.det 4 rfl (Grow.refl) ?_
          apply Exists.intro
          refine ⟨fun vs x hR hF K hK => ?_, ?_⟩
          · have f2 := hF 0 _ _ rfl rfl; clear hF
            go_simp
            exact hK _ _ (Grow.refl _) rfl
          refine Plan.det 5 rfl (Grow.refl) ?_
          apply Exists.intro
          refine ⟨fun vs x hR hF K hK => ?_, ?_⟩
          · have f3 := hF 0 _ _ rfl rfl; clear hF
            go_simp
            exact hK _ _ (Grow.refl _) rfl
          refine Plan.det 6 rfl (Grow.refl) ?_
          apply Exists.intro
          refine ⟨fun vs x hR hF K hK => ?_, ?_⟩
          · have f3 := hF 1 _ _ rfl rfl; clear hF
            go_simp
            exact hK _ _ (Grow.refl _) rfl
          refine Plan.det 7 rfl (Grow.refl) ?_
          apply Exists.intro
          refine ⟨fun vs x hR hF K hK => ?_, ?_⟩
          · have f3 := hF 2 _ _ rfl rfl; clear hF
            go_simp
            exact hK _ _ (Grow.refl _) rfl
          refine Plan.det 8 rfl (Grow.refl) ?_
          apply Exists.intro
          refine ⟨fun vs x hR hF K hK => ?_, ?_⟩
          · have f3 := hF 3 _ _ rfl rfl; have f5 := hF 1 _ _ rfl rfl; have f6 := hF 0 _ _ rfl rfl; clear hF
            go_simp
            exact hK _ _ (Grow.refl _) rfl
          refine Plan.det 9 rfl (Grow.refl) ?_
          apply Exists.intro
          refine ⟨fun vs x hR hF K hK => ?_, ?_⟩
          · have f3 := hF 4 _ _ rfl rfl; have f7 := hF 0 _ _ rfl rfl; have hc := HC.out x hR; clear hF
            go_simp
            exact hK _ _ (Grow.refl _) rfl
          refine Plan.det 10 rfl (Grow.refl) ?_
          apply Exists.intro
          refine ⟨fun vs x hR hF K hK => ?_, ?_⟩
          · have f3 := hF 5 _ _ rfl rfl; clear hF
            go_simp
            exact hK _ _ (Grow.refl _) rfl
          refine Plan.det 11 rfl (Grow.refl) ?_
          apply Exists.intro
          refine ⟨fun vs x hR hF K hK => ?_, ?_⟩
          · have f3 := hF 6 _ _ rfl rfl; clear hF
            go_simp
            exact hK _ _ (Grow.refl _) rfl
          refine Plan.det 12 rfl (Grow.refl) ?_
          apply Exists.intro
          refine ⟨fun vs x hR hF K hK => ?_, ?_⟩
          · have f3 := hF 7 _ _ rfl rfl; have f10 := hF 0 _ _ rfl rfl; clear hF
            go_simp
            exact hK _ _ (Grow.refl _) rfl
          refine Plan.det 13 rfl (Grow.refl) ?_
          apply Exists.intro
          refine ⟨fun vs x hR hF K hK => ?_, ?_⟩
          · have f3 := hF 8 _ _ rfl rfl; have f9 := hF 2 _ _ rfl rfl; have f11 := hF 0 _ _ rfl rfl; clear hF
            go_simp
            exact hK _ _ (Grow.refl _) rfl
          refine Plan.det 14 rfl (Grow.refl) ?_
          apply Exists.intro
          refine ⟨fun vs x hR hF K hK => ?_, ?_⟩
          · have f3 := hF 9 _ _ rfl rfl; have f12 := hF 0 _ _ rfl rfl; have hc := HC.out x hR; clear hF
            go_simp
            exact hK _ _ (Grow.refl _) rfl
          refine Plan.det 15 rfl (Grow.refl) ?_
          apply Exists.intro
          refine ⟨fun vs x hR hF K hK => ?_, ?_⟩
          · have f3 := hF 10 _ _ rfl rfl; have f4 := hF 9 _ _ rfl rfl; have f8 := hF 5 _ _ rfl rfl; have f13 := hF 0 _ _ rfl rfl; clear hF
            go_simp
            refine (pcmp_any x z1 y1 za ya zn yn zc yc hz6 hy6).mono ?_
            rintro e x1 ⟨rfl, hbe⟩
            exact ⟨_, rfl, hK _ _ hbe rfl⟩
          refine Plan.det 16 rfl (Grow.refl) ?_
          apply Exists.intro
          refine ⟨fun vs x hR hF K hK => ?_, ?_⟩
          · have f3 := hF 11 _ _ rfl rfl; have f14 := hF 0 _ _ rfl rfl; clear hF
            go_simp
            exact hK _ _ (Grow.refl _) rfl
          refine Plan.det 17 rfl (Grow.refl) ?_
          apply Exists.intro
          refine ⟨fun vs x hR hF K hK => ?_, ?_⟩
          · have f3 := hF 12 _ _ rfl rfl; have f15 := hF 0 _ _ rfl rfl; clear hF
            go_simp
            exact hK _ _ (Grow.refl _) rfl
          refine Plan.nil (fun vs x hR hF => ?_)
          have f0 := hF 16 _ _ rfl; have f1 := hF 15 _ _ rfl; have f2 := hF 14 _ _ rfl; have f3 := hF 13 _ _ rfl; have f4 := hF 12 _ _ rfl; have f5 := hF 11 _ _ rfl; have f6 := hF 10 _ _ rfl; have f7 := hF 9 _ _ rfl; have f8 := hF 8 _ _ rfl; have f9 := hF 7 _ _ rfl; have f10 := hF 6 _ _ rfl; have f11 := hF 5 _ _ rfl; have f12 := hF 4 _ _ rfl; have f13 := hF 3 _ _ rfl; have f14 := hF 2 _ _ rfl; have f15 := hF 1 _ _ rfl; have f16 := hF 0 _ _ rfl
          clear hF
          simp only [f0, f1, f2, f3, f4, f5, f6, f7, f8, f9, f10, f11, f12, f13, f14, f15, f16]
          clear f0 f1 f2 f3 f4 f5 f6 f7 f8 f9 f10 f11 f12 f13 f14 f15 f16
          simp only [List.drop_succ_cons, List.drop_zero]
          have HG2 := hid (HG.out.1.later (grow_below hR))
          clear HC q0 q1 hR
          generalize x = y2 at HG2 ⊢
          have q0 := HG2.out.cells HZ1.out
          have q1 := HG2.out.cells HY1.out
          dsimp only at q0 q1
          by_cases hc : (y1 : Int) - (z1 : Int) < 0
          · have hlz : zkey ((y1, ys), ya, yn, yc) < zkey ((z1, zs), za, zn, zc) := by show (y1 : Int) < z1; omega
            have HLZ := hid hlz
            have f0 := HG2.out.free ((k + 1) * 2)
            have f1 := HG2.out.free ((k + 1) * 2 + 1)
            have f2 := HG2.out.free (k * 2)
            have f3 := HG2.out.free (k * 2 + 1)
            have hput := (HG2.out.put ((y1, ys), ya, yn, yc) hkn).put ((z1, zs), za, zn, zc) (k := k) (by omega)
            have hsw := insL_swap X A0 ((y1, ys), ya, yn, yc) ((z1, zs), za, zn, zc) B T Z
            rw [← HG.out.2.2.2] at hsw
            rw [hsw] at hput
            dsimp only at hput
            have HPUT := hid hput
            clear hput hsw hlz
            go_wp2_with fail
            go_region
            all_goals
              go_wp2_with fail
              refine ⟨⟨k, A0, ((y1, ys), ya, yn, yc) :: B, rfl, by omega, by omega, HPUT.out.later ((Below.refl _ _).drew), by rw [HG.out.2.1]; simp, .inr ⟨_, rfl, HLZ.out⟩, by rw [HG.out.2.2.2, HA.out]⟩, ?_⟩
              simp [intOf] <;> omega
          · have hlz : zkey ((z1, zs), za, zn, zc) ≤ zkey ((y1, ys), ya, yn, yc) := by show (z1 : Int) ≤ y1; omega
            have hd := HS.out.1
            rw [HG.out.2.1] at hd
            obtain ⟨hd2, hs2⟩ := insert_right (x := ((z1, zs), za, zn, zc)) hd (.inr ⟨((y1, ys), ya, yn, yc), by simp, hlz⟩) HG.out.2.2.1
            have HN : Hid (SrtAt w b n more (X ++ (A0 ++ [((y1, ys), ya, yn, yc)] ++ ((z1, zs), za, zn, zc) :: B) ++ T ++ Z) y2 ∧ Desc zkey (A0 ++ [((y1, ys), ya, yn, yc)] ++ ((z1, zs), za, zn, zc) :: B) ∧ SameF zkey Y ((A0 ++ [((y1, ys), ya, yn, yc)] ++ ((z1, zs), za, zn, zc) :: B) ++ T) ∧ (A0 ++ [((y1, ys), ya, yn, yc)] ++ ((z1, zs), za, zn, zc) :: B).length = min (i + 1 - a) Y.length) := by
              have h5 := HS.out.2.1
              rw [show S ++ ((z1, zs), za, zn, zc) :: T = (S ++ [((z1, zs), za, zn, zc)]) ++ T by simp, HG.out.2.1] at h5
              refine ⟨?_, hd2, h5.trans (hs2.append (SameF.refl _)), ?_⟩
              · have e0 : X ++ (A0 ++ [((y1, ys), ya, yn, yc)] ++ ((z1, zs), za, zn, zc) :: B) ++ T ++ Z = insL X (A0 ++ [((y1, ys), ya, yn, yc)]) ((z1, zs), za, zn, zc) B T Z := by unfold insL; simp
                rw [e0]; exact HG2.out
              · have h6 := hs2.length
                have h7 := HS.out.2.2
                rw [HG.out.2.1] at h7
                simp at h6 h7 ⊢
                have := HE.out
                have := HA.out
                omega
            clear hd hd2 hs2 hlz HG HG2 q0 q1
            go_wp2_with fail
            refine ⟨⟨i + 1, _, T, by go_num, by omega, by omega, HN.out⟩, ?_⟩
            simp [intOf] <;> omega
        · obtain rfl : j = a := by omega
          have hjaI : ¬ (j : Int) < (j : Int) := by omega
          have hA0 : A = [] := by
            cases A with
            | nil => rfl
            | cons u A => exfalso; simp at h3
          subst hA0
          have hd := HS.out.1
          rw [h1] at hd
          obtain ⟨hd2, hs2⟩ := insert_right (x := z) hd (.inl rfl) h2
          have HN : Hid (SrtAt w b n more (X ++ (z :: B) ++ T ++ Z) wr ∧ Desc zkey (z :: B) ∧ SameF zkey Y ((z :: B) ++ T) ∧ (z :: B).length = min (i + 1 - j) Y.length) := by
            have h5 := HS.out.2.1
            rw [show S ++ z :: T = (S ++ [z]) ++ T by simp, h1] at h5
            refine ⟨?_, hd2, h5.trans (hs2.append (SameF.refl _)), ?_⟩
            · have e0 : X ++ (z :: B) ++ T ++ Z = insL X [] z B T Z := by unfold insL; simp
              rw [e0]; exact h0
            · have h6 := hs2.length
              have h7 := HS.out.2.2
              rw [h1] at h7
              simp at h6 h7 ⊢
              have := HE.out
              have := HA.out
              omega
          clear hd hd2 hs2 h0 h1 h2 h3 HY hXa
          go_wp2_with fail
          refine wp_region_inv 17 (Grow) (by kernel_rfl) (by kernel_rfl) (Grow.refl) (fun _ _ _ => Grow.trans) ?_
          simp only [fill, dstOf, Act.put, List.take_succ_cons, List.take_zero, List.getElem?_toArray, List.getElem?_cons_zero, List.getElem?_cons_succ, Option.bind_some, List.setIfInBounds_toArray, List.set_cons_zero, List.set_cons_succ]
          refine Plan.det 1 rfl (Grow.refl) ?_
          apply Exists.intro
          refine ⟨fun vs x hR hF K hK => ?_, ?_⟩
          · clear hF
            go_simp
            exact hK _ _ (Grow.refl _) rfl
          refine Plan.det 2 rfl (Grow.refl) ?_
          apply Exists.intro
          refine ⟨fun vs x hR hF K hK => ?_, ?_⟩
          · clear hF
            go_simp
            exact hK _ _ (Grow.refl _) rfl
          refine Plan.det 3 rfl (Grow.refl) ?_
          apply Exists.intro
          refine ⟨fun vs x hR hF K hK => ?_, ?_⟩
          · have f0 := hF 1 _ _ rfl rfl; have f1 := hF 0 _ _ rfl rfl; clear hF
            go_simp
            exact hK _ _ (Grow.refl _) rfl
          refine Plan.det 4 rfl (Grow.refl) ?_
          apply Exists.intro
          refine ⟨fun vs x hR hF K hK => ?_, ?_⟩
          · have f2 := hF 0 _ _ rfl rfl; clear hF
            go_simp
            exact hK _ _ (Grow.refl _) rfl
          refine Plan.det 5 rfl (Grow.refl) ?_
          apply Exists.intro
          refine ⟨fun vs x hR hF K hK => ?_, ?_⟩
          · have f3 := hF 0 _ _ rfl rfl; clear hF
            go_simp
            exact hK _ _ (Grow.refl _) rfl
          refine Plan.det 6 rfl (Grow.refl) ?_
          apply Exists.intro
          refine ⟨fun vs x hR hF K hK => ?_, ?_⟩
          · have f3 := hF 1 _ _ rfl rfl; clear hF
            go_simp
            exact hK _ _ (Grow.refl _) rfl
          refine Plan.det 7 rfl (Grow.refl) ?_
          apply Exists.intro
          refine ⟨fun vs x hR hF K hK => ?_, ?_⟩
          · have f3 := hF 2 _ _ rfl rfl; clear hF
            go_simp
            exact hK _ _ (Grow.refl _) rfl
          refine Plan.det 8 rfl (Grow.refl) ?_
          apply Exists.intro
          refine ⟨fun vs x hR hF K hK => ?_, ?_⟩
          · have f3 := hF 3 _ _ rfl rfl; have f5 := hF 1 _ _ rfl rfl; have f6 := hF 0 _ _ rfl rfl; clear hF
            go_simp
            exact hK _ _ (Grow.refl _) rfl
          refine Plan.det 9 rfl (Grow.refl) ?_
          apply Exists.intro
          refine ⟨fun vs x hR hF K hK => ?_, ?_⟩
          · have f3 := hF 4 _ _ rfl rfl; have f7 := hF 0 _ _ rfl rfl; clear hF
            go_simp
            exact hK _ _ (Grow.refl _) rfl
          refine Plan.det 10 rfl (Grow.refl) ?_
          apply Exists.intro
          refine ⟨fun vs x hR hF K hK => ?_, ?_⟩
          · have f3 := hF 5 _ _ rfl rfl; clear hF
            go_simp
            exact hK _ _ (Grow.refl _) rfl
          refine Plan.det 11 rfl (Grow.refl) ?_
          apply Exists.intro
          refine ⟨fun vs x hR hF K hK => ?_, ?_⟩
          · have f3 := hF 6 _ _ rfl rfl; clear hF
            go_simp
            exact hK _ _ (Grow.refl _) rfl
          refine Plan.det 12 rfl (Grow.refl) ?_
          apply Exists.intro
          refine ⟨fun vs x hR hF K hK => ?_, ?_⟩
          · have f3 := hF 7 _ _ rfl rfl; have f10 := hF 0 _ _ rfl rfl; clear hF
            go_simp
            exact hK _ _ (Grow.refl _) rfl
          refine Plan.det 13 rfl (Grow.refl) ?_
          apply Exists.intro
          refine ⟨fun vs x hR hF K hK => ?_, ?_⟩
          · have f3 := hF 8 _ _ rfl rfl; have f9 := hF 2 _ _ rfl rfl; have f11 := hF 0 _ _ rfl rfl; clear hF
            go_simp
            exact hK _ _ (Grow.refl _) rfl
          refine Plan.det 14 rfl (Grow.refl) ?_
          apply Exists.intro
          refine ⟨fun vs x hR hF K hK => ?_, ?_⟩
          · have f3 := hF 9 _ _ rfl rfl; have f12 := hF 0 _ _ rfl rfl; clear hF
            go_simp
            exact hK _ _ (Grow.refl _) rfl
          refine Plan.det 15 rfl (Grow.refl) ?_
          apply Exists.intro
          refine ⟨fun vs x hR hF K hK => ?_, ?_⟩
          · have f3 := hF 10 _ _ rfl rfl; have f4 := hF 9 _ _ rfl rfl; have f8 := hF 5 _ _ rfl rfl; have f13 := hF 0 _ _ rfl rfl; clear hF
            go_simp
            exact hK _ _ (Grow.refl _) rfl
          refine Plan.det 16 rfl (Grow.refl) ?_
          apply Exists.intro
          refine ⟨fun vs x hR hF K hK => ?_, ?_⟩
          · have f3 := hF 11 _ _ rfl rfl; have f14 := hF 0 _ _ rfl rfl; clear hF
            go_simp
            exact hK _ _ (Grow.refl _) rfl
          refine Plan.det 17 rfl (Grow.refl) ?_
          apply Exists.intro
          refine ⟨fun vs x hR hF K hK => ?_, ?_⟩
          · have f3 := hF 12 _ _ rfl rfl; have f15 := hF 0 _ _ rfl rfl; clear hF
            go_simp
            exact hK _ _ (Grow.refl _) rfl
          refine Plan.nil (fun vs x hR hF => ?_)
          have f0 := hF 16 _ _ rfl; have f1 := hF 15 _ _ rfl; have f2 := hF 14 _ _ rfl; have f3 := hF 13 _ _ rfl; have f4 := hF 12 _ _ rfl; have f5 := hF 11 _ _ rfl; have f6 := hF 10 _ _ rfl; have f7 := hF 9 _ _ rfl; have f8 := hF 8 _ _ rfl; have f9 := hF 7 _ _ rfl; have f10 := hF 6 _ _ rfl; have f11 := hF 5 _ _ rfl; have f12 := hF 4 _ _ rfl; have f13 := hF 3 _ _ rfl; have f14 := hF 2 _ _ rfl; have f15 := hF 1 _ _ rfl; have f16 := hF 0 _ _ rfl
          clear hF
          simp only [f0, f1, f2, f3, f4, f5, f6, f7, f8, f9, f10, f11, f12, f13, f14, f15, f16]
          clear f0 f1 f2 f3 f4 f5 f6 f7 f8 f9 f10 f11 f12 f13 f14 f15 f16
          simp only [List.drop_succ_cons, List.drop_zero]
          have HN2 := hid (And.intro (HN.out.1.later (grow_below hR)) HN.out.2)
          go_wp2_with fail
          refine ⟨⟨i + 1, z :: B, T, by go_num, by omega, by omega, HN2.out⟩, ?_⟩
          simp [intOf] <;> omega
    · have hltI : ¬ (i : Int) < (e : Int) := by omega
      have hT : T = [] := by
        have := HE.out
        have := HA.out
        cases T with
        | nil => rfl
        | cons u T => simp at hlen; omega
      subst hT
      rw [List.append_nil] at h0 h2
      have HF := hid (⟨h0, h1, h2⟩ : _ ∧ _ ∧ _)
      clear h0 h1 h2 h3 hlen HX
      go_wp2_with fail
      go_end0
      exact ⟨rfl, S, HF.out⟩
end Go.Proofs.YthnpbopnpdlmnaaDoor

/- The program of layer 9: swapping and rotating parts of a row. -/
namespace Go.Proofs.YthnpbopnpdlmnaaDoor
open Go.RowKit
attribute [local go_sem] gives givesUpon

def swpL (X U V W Z : List Zel) (k : Nat) : List Zel := X ++ (W.take k ++ U.drop k) ++ V ++ (U.take k ++ W.drop k) ++ Z
theorem swpL_get1 {X U V W Z : List Zel} {k : Nat} {u : Zel} (h : U[k]? = some u) (hl : U.length = W.length) : (swpL X U V W Z k)[X.length + k]? = some u := by
  have hk := (List.getElem?_eq_some_iff.1 h).1
  unfold swpL
  rw [List.append_assoc, List.append_assoc, List.append_assoc, List.append_assoc, List.getElem?_append_right (by omega), List.append_assoc, List.getElem?_append_right (by rw [List.length_take]; omega), List.getElem?_append_left (by rw [List.length_drop, List.length_take]; omega), List.getElem?_drop, List.length_take, ← h]
  congr 1
  omega
theorem swpL_get2 {X U V W Z : List Zel} {k : Nat} {v : Zel} (h : W[k]? = some v) (hl : U.length = W.length) : (swpL X U V W Z k)[X.length + U.length + V.length + k]? = some v := by
  have hk := (List.getElem?_eq_some_iff.1 h).1
  unfold swpL
  rw [List.append_assoc, List.getElem?_append_right (by simp; omega), List.append_assoc, List.getElem?_append_right (by simp; omega), List.getElem?_append_left (by simp; omega), List.getElem?_drop, ← h]
  congr 1
  simp
  omega
theorem swpL_step {X U V W Z : List Zel} {k : Nat} {u v : Zel} (hu : U[k]? = some u) (hv : W[k]? = some v) (hl : U.length = W.length) : ((swpL X U V W Z k).set (X.length + k) v).set (X.length + U.length + V.length + k) u = swpL X U V W Z (k + 1) := by
  have hk := (List.getElem?_eq_some_iff.1 hu).1
  have hk2 := (List.getElem?_eq_some_iff.1 hv).1
  have du : U.drop k = u :: U.drop (k + 1) := by rw [List.drop_eq_getElem_cons hk]; congr 1; exact (List.getElem?_eq_some_iff.1 hu).2
  have dw : W.drop k = v :: W.drop (k + 1) := by rw [List.drop_eq_getElem_cons hk2]; congr 1; exact (List.getElem?_eq_some_iff.1 hv).2
  have tu : U.take (k + 1) = U.take k ++ [u] := by rw [List.take_add_one, hu]; rfl
  have tw : W.take (k + 1) = W.take k ++ [v] := by rw [List.take_add_one, hv]; rfl
  unfold swpL
  rw [du, dw, tu, tw]
  have e1 : X ++ (W.take k ++ u :: U.drop (k + 1)) ++ V ++ (U.take k ++ v :: W.drop (k + 1)) ++ Z = (X ++ W.take k) ++ u :: ((U.drop (k + 1) ++ V ++ U.take k) ++ v :: (W.drop (k + 1) ++ Z)) := by simp
  have l1 : (X ++ W.take k).length = X.length + k := by rw [List.length_append, List.length_take]; omega
  have l2 : (U.drop (k + 1) ++ V ++ U.take k).length = U.length - (k + 1) + V.length + k := by rw [List.length_append, List.length_append, List.length_take, List.length_drop]; omega
  rw [e1, ← l1, List.set_append_right _ _ (Nat.le_refl _), Nat.sub_self, List.set_cons_zero, List.set_append_right _ _ (by rw [l1]; omega)]
  rw [show X.length + U.length + V.length + k - (X ++ W.take k).length = (U.drop (k + 1) ++ V ++ U.take k).length + 1 by rw [l1, l2]; omega, List.set_cons_succ, List.set_append_right _ _ (Nat.le_refl _), Nat.sub_self, List.set_cons_zero]
  simp
set_option maxRecDepth 100000 in
set_option maxHeartbeats 16000000 in
theorem pswap_any (w0 w : World) (b n c : Nat) (more : List Value) (X U V W Z : List Zel) (h : SrtAt w0 b n more (X ++ U ++ V ++ W ++ Z) w) (hl : U.length = W.length) (hn : n ≤ 200000) :
    Calls Tryd.prog 72 #[.slice (some ⟨b, 0, none⟩) n c, .int .i64 X.length, .int .i64 ((X.length + U.length + V.length : Nat) : Int), .int .i64 U.length, .func (.func 60) #[] #[]] w fun e w' => e = .returned (.tuple #[]) ∧ SrtAt w0 b n more (X ++ W ++ V ++ U ++ Z) w' := by
  obtain ⟨a, ha⟩ : ∃ a, a = X.length := ⟨_, rfl⟩
  obtain ⟨d, hd⟩ : ∃ d, d = X.length + U.length + V.length := ⟨_, rfl⟩
  obtain ⟨m, hm⟩ : ∃ m, m = U.length := ⟨_, rfl⟩
  rw [← hd, ← ha, ← hm]
  have hdn : d + m ≤ n := by have := h.2.2.1; simp at this; omega
  have had : a + m ≤ d := by omega
  have HA := hid ha
  have HD := hid hd
  have HM := hid hm
  have HL := hid hl
  have HH : Hid (SrtAt w0 b n more (swpL X U V W Z 0) w) := by
    have e0 : swpL X U V W Z 0 = X ++ U ++ V ++ W ++ Z := by unfold swpL; simp
    unfold Hid
    rw [e0]; exact h
  clear h ha hd hm hl
  go_enter Tryd.func72, Tryd.ntmps72
  go_wp2_with fail
  go_loopw [10] (fun v10 wr => ∃ (k : Nat), v10 = .int .i64 k ∧ k ≤ m ∧ Hid (SrtAt w0 b n more (swpL X U V W Z k) wr)) (fun v10 _ => m - (intOf v10).toNat)
  case atStart => exact ⟨0, rfl, Nat.zero_le _, HH.out⟩
  case round =>
    obtain ⟨k, rfl, hk, HX⟩ := hrel
    by_cases hlt : k < m
    · have hltI : (k : Int) < (m : Int) := by omega
      have hku : k < U.length := by have := HM.out; omega
      have hkw : k < W.length := by have := HL.out; omega
      have HU : Hid (U[k]? = some U[k]) := List.getElem?_eq_getElem hku
      have HW : Hid (W[k]? = some W[k]) := List.getElem?_eq_getElem hkw
      generalize U[k] = u at HU
      generalize W[k] = v at HW
      have hg1 := swpL_get1 (X := X) (V := V) (Z := Z) HU.out HL.out
      have hg2 := swpL_get2 (X := X) (V := V) (Z := Z) HW.out HL.out
      rw [← HA.out] at hg1
      rw [← HD.out] at hg2
      have q0 := HX.out.cells hg1
      have q1 := HX.out.cells hg2
      have hput := (HX.out.put v (k := a + k) (by omega)).put u (k := d + k) (by omega)
      have hst := swpL_step (X := X) (V := V) (Z := Z) HU.out HW.out HL.out
      rw [← HD.out, ← HA.out] at hst
      rw [hst] at hput
      have f0 := HX.out.free ((a + k) * 2)
      have f1 := HX.out.free ((a + k) * 2 + 1)
      have f2 := HX.out.free ((d + k) * 2)
      have f3 := HX.out.free ((d + k) * 2 + 1)
      obtain ⟨⟨u1, us⟩, ua, un, uc⟩ := u
      obtain ⟨⟨v1, vs⟩, va, vn, vc⟩ := v
      dsimp only at q0 q1 hput
      have HPUT := hid hput
      have hak : (a : Int) + (k : Int) < (n : Int) := by omega
      have hdk : (d : Int) + (k : Int) < (n : Int) := by omega
      have hwa : IntKind.i64.wrap ((a : Int) + (k : Int)) = (a : Int) + k := by rw [IntKind.wrap_i64]; omega
      have hwd : IntKind.i64.wrap ((d : Int) + (k : Int)) = (d : Int) + k := by rw [IntKind.wrap_i64]; omega
      clear hg1 hg2 hput hst HX
      go_wp2_with fail
      go_region
      all_goals
        go_wp2_with fail
        refine ⟨⟨k + 1, by go_num, by omega, HPUT.out.later ((Below.refl _ _).drew)⟩, ?_⟩
        simp [intOf] <;> omega
    · obtain rfl : k = m := by omega
      have hltI : ¬ (k : Int) < (k : Int) := by omega
      have HF : Hid (SrtAt w0 b n more (X ++ W ++ V ++ U ++ Z) wr) := by
        have e0 : swpL X U V W Z k = X ++ W ++ V ++ U ++ Z := by
          unfold swpL
          have := HM.out
          have := HL.out
          rw [List.take_of_length_le (by omega), List.drop_of_length_le (by omega), List.take_of_length_le (by omega), List.drop_of_length_le (by omega)]
          simp
        unfold Hid
        rw [← e0]; exact HX.out
      clear HX HH
      go_wp2_with fail
      go_end0
      exact ⟨rfl, by simpa using HF.out⟩
theorem cut_at {α : Type} (l : List α) (k : Nat) (h : k ≤ l.length) : ∃ a b, l = a ++ b ∧ a.length = k := ⟨l.take k, l.drop k, (List.take_append_drop k l).symm, by rw [List.length_take]; omega⟩
def RotPost (w0 : World) (b n : Nat) (more : List Value) (R : List Zel) (e : Ending) (w' : World) : Prop := e = .returned (.tuple #[]) ∧ SrtAt w0 b n more R w'
set_option maxRecDepth 100000 in
set_option maxHeartbeats 16000000 in
theorem protate_any (w0 w : World) (b n c : Nat) (more : List Value) (X U V Z : List Zel) (h : SrtAt w0 b n more (X ++ U ++ V ++ Z) w) (hU : U ≠ []) (hV : V ≠ []) (hn : n ≤ 200000) :
    Calls Tryd.prog 67 #[.slice (some ⟨b, 0, none⟩) n c, .int .i64 X.length, .int .i64 ((X.length + U.length : Nat) : Int), .int .i64 ((X.length + U.length + V.length : Nat) : Int), .func (.func 60) #[] #[]] w (RotPost w0 b n more (X ++ V ++ U ++ Z)) := by
  obtain ⟨a, ha⟩ : ∃ a, a = X.length := ⟨_, rfl⟩
  obtain ⟨m, hm⟩ : ∃ m, m = X.length + U.length := ⟨_, rfl⟩
  obtain ⟨e, he⟩ : ∃ e, e = X.length + U.length + V.length := ⟨_, rfl⟩
  rw [← he, ← hm, ← ha]
  have hU1 := List.length_pos_iff.2 hU
  have hV1 := List.length_pos_iff.2 hV
  have hen : e ≤ n := by have := h.2.2.1; simp at this; omega
  have ham : a < m := by omega
  have hme : m < e := by omega
  obtain ⟨R, hR⟩ : ∃ R, R = X ++ V ++ U ++ Z := ⟨_, rfl⟩
  rw [← hR]
  have HST : Hid (∃ P U' V' S, SrtAt w0 b n more (P ++ U' ++ V' ++ S) w ∧ R = P ++ V' ++ U' ++ S ∧ U'.length = m - a ∧ V'.length = e - m ∧ P.length + (m - a) = m) := ⟨X, U, V, Z, h, hR, by omega, by omega, by omega⟩
  clear h hU hV hU1 hV1 ha hm he hR
  go_enter Tryd.func67, Tryd.ntmps67
  go_wp2_with fail
  go_loopw [10, 11] (fun v10 v11 wr => ∃ (i j : Nat), v10 = .int .i64 i ∧ v11 = .int .i64 j ∧ 0 < i ∧ 0 < j ∧ i ≤ m ∧ m + j ≤ e ∧ Hid (∃ P U' V' S, SrtAt w0 b n more (P ++ U' ++ V' ++ S) wr ∧ R = P ++ V' ++ U' ++ S ∧ U'.length = i ∧ V'.length = j ∧ P.length + i = m)) (fun v10 v11 _ => (intOf v10).toNat + (intOf v11).toNat)
  case atStart => exact ⟨m - a, e - m, by go_num, by go_num, by omega, by omega, by omega, by omega, HST.out⟩
  case round =>
    obtain ⟨i, j, rfl, rfl, hi, hj, him, hje, HX⟩ := hrel
    obtain ⟨P, U', V', S, h0, h1, h2, h3, h4⟩ := HX.out
    have hmi : IntKind.i64.wrap ((m : Int) - (i : Int)) = ((P.length : Nat) : Int) := by rw [IntKind.wrap_i64]; omega
    have HG := hid (⟨h0, h1, h2, h3, h4⟩ : _ ∧ _ ∧ _ ∧ _ ∧ _)
    obtain ⟨pl, hpl⟩ : ∃ pl, pl = P.length := ⟨_, rfl⟩
    rw [← hpl] at hmi
    have HPL := hid hpl
    by_cases hij : i = j
    · subst hij
      have hc := pswap_any w0 wr b n c more P U' [] V' S (by simpa using h0) (by omega) hn
      rw [← hpl, show pl + U'.length + ([] : List Zel).length = m by simp; omega, h2] at hc
      have HC := hid hc
      clear hc h0 h1 h2 h3 h4 hpl HX
      go_wp2_with fail
      refine HC.out.mono ?_
      rintro e z ⟨rfl, hz⟩
      have HF : Hid (SrtAt w0 b n more R z) := by
        unfold Hid
        rw [HG.out.2.1]
        simpa using hz
      clear hz HC
      go_wp2_with fail
      go_end0
      exact ⟨rfl, HF.out⟩
    · have hne : ((i : Int) != (j : Int)) = true := by simp; omega
      by_cases hgt : j < i
      · have hgtI : (j : Int) < (i : Int) := by omega
        obtain ⟨U1, U2, rfl, hU1⟩ := cut_at U' j (by omega)
        have hc := pswap_any w0 wr b n c more P U1 U2 V' S (by simpa using h0) (by omega) hn
        rw [← hpl, show pl + U1.length + U2.length = m by simp at h2; omega, hU1] at hc
        have HC := hid hc
        have hwij : IntKind.i64.wrap ((i : Int) - (j : Int)) = ((i - j : Nat) : Int) := by rw [IntKind.wrap_i64]; omega
        have HU1 := hid hU1
        clear hc h0 h1 h2 h3 h4 hpl HX hU1 hij
        go_wp2_with fail
        refine HC.out.mono ?_
        rintro e z ⟨rfl, hz⟩
        have HF : Hid (∃ P U' V' S, SrtAt w0 b n more (P ++ U' ++ V' ++ S) z ∧ R = P ++ V' ++ U' ++ S ∧ U'.length = i - j ∧ V'.length = j ∧ P.length + (i - j) = m) := by
          refine ⟨P ++ V', U2, U1, S, by simpa using hz, by rw [HG.out.2.1]; simp, ?_, HU1.out, ?_⟩
          · have := HG.out.2.2.1; have := HU1.out; simp at *; omega
          · have := HG.out.2.2.2; simp; omega
        clear hz HC HG
        go_wp2_with fail
        refine ⟨⟨i - j, j, by go_num, rfl, by omega, by omega, by omega, by omega, HF.out⟩, ?_⟩
        simp [intOf] <;> omega
      · have hgtI : ¬ (j : Int) < (i : Int) := by omega
        have hilt : i < j := by omega
        obtain ⟨V1, V2, rfl, hV1⟩ := cut_at V' (j - i) (by omega)
        have hV2 : V2.length = i := by simp at h3; omega
        have hc := pswap_any w0 wr b n c more P U' V1 V2 S (by simpa using h0) (by omega) hn
        obtain ⟨q, hq⟩ : ∃ q, q = pl + U'.length + V1.length := ⟨_, rfl⟩
        rw [← hpl, ← hq, h2] at hc
        have HC := hid hc
        have hwq : IntKind.i64.wrap ((m : Int) + (j : Int) - (i : Int)) = (q : Int) := by rw [IntKind.wrap_i64]; omega
        have hwji : IntKind.i64.wrap ((j : Int) - (i : Int)) = ((j - i : Nat) : Int) := by rw [IntKind.wrap_i64]; omega
        have HV1 := hid (⟨hV1, hV2⟩ : _ ∧ _)
        clear hc h0 h1 h2 h3 h4 hpl HX hV1 hV2 hij hq
        go_wp2_with fail
        refine HC.out.mono ?_
        rintro e z ⟨rfl, hz⟩
        have HF : Hid (∃ P U' V' S, SrtAt w0 b n more (P ++ U' ++ V' ++ S) z ∧ R = P ++ V' ++ U' ++ S ∧ U'.length = i ∧ V'.length = j - i ∧ P.length + i = m) := by
          refine ⟨P, V2, V1, U' ++ S, by simpa using hz, by rw [HG.out.2.1]; simp, HV1.out.2, HV1.out.1, HG.out.2.2.2.2⟩
        clear hz HC HG
        go_wp2_with fail
        refine ⟨⟨i, j - i, rfl, by go_num, by omega, by omega, by omega, by omega, HF.out⟩, ?_⟩
        simp [intOf] <;> omega
end Go.Proofs.YthnpbopnpdlmnaaDoor
