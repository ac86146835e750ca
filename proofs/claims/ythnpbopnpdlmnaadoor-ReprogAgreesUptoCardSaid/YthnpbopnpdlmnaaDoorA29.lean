/- The program of layer 9: merging two sorted parts of a row in place, in general. -/
import Derived.Test.YthnpbopnpdlmnaaDoorA28
import Derived.Deep.Cut
namespace Go.Proofs.YthnpbopnpdlmnaaDoor
open Go.RowKit
attribute [local go_sem] gives givesUpon

def SeekM (s r s0 r0 N : Nat) (L : List Zel) : Prop := (s = s0 ∨ ∃ x y, 0 < s ∧ L[s - 1]? = some x ∧ L[N - s]? = some y ∧ zkey y ≤ zkey x) ∧ (r = r0 ∨ ∃ x y, L[r]? = some x ∧ L[N - 1 - r]? = some y ∧ zkey x < zkey y)
theorem seekM_cut {L A B : List Zel} {a m e s s0 r0 N : Nat} (hA : m = a + A.length) (he : e = m + B.length) (HLA : ∀ t, t < A.length → L[a + t]? = A[t]?) (HLB : ∀ t, t < B.length → L[m + t]? = B[t]?) (hs : a ≤ s ∧ s ≤ m ∧ m + s ≤ N ∧ N ≤ e + s) (HS0 : s0 = a ∨ N = e + s0) (HR0 : r0 = m ∨ N = m + r0) (hsk : SeekM s s s0 r0 N L) :
    (A.take (s - a) = [] ∨ B.drop (N - s - m) = [] ∨ ∃ x y, (A.take (s - a)).getLast? = some x ∧ (B.drop (N - s - m)).head? = some y ∧ zkey y ≤ zkey x) ∧ (A.drop (s - a) = [] ∨ B.take (N - s - m) = [] ∨ ∃ x y, (A.drop (s - a)).head? = some x ∧ (B.take (N - s - m)).getLast? = some y ∧ zkey x < zkey y) := by
  constructor
  · by_cases h1 : s = a
    · left; rw [h1, Nat.sub_self]; rfl
    by_cases h2 : N = e + s
    · right; left; exact List.drop_of_length_le (by omega)
    rcases hsk.1 with h3 | ⟨x, y, h3, h4, h5, h6⟩
    · rcases HS0 with h | h <;> omega
    · right; right
      have k1 := HLA (s - a - 1) (by omega)
      rw [show a + (s - a - 1) = s - 1 by omega, h4] at k1
      have k2 := HLB (N - s - m) (by omega)
      rw [show m + (N - s - m) = N - s by omega, h5] at k2
      have k3 := take_last k1.symm
      rw [show s - a - 1 + 1 = s - a by omega] at k3
      exact ⟨x, y, k3, drop_head k2.symm, h6⟩
  · by_cases h1 : s = m
    · left; exact List.drop_of_length_le (by omega)
    by_cases h2 : N = m + s
    · right; left; rw [show N - s - m = 0 by omega]; rfl
    rcases hsk.2 with h3 | ⟨x, y, h4, h5, h6⟩
    · rcases HR0 with h | h <;> omega
    · right; right
      have k1 := HLA (s - a) (by omega)
      rw [show a + (s - a) = s by omega, h4] at k1
      have k2 := HLB (N - s - m - 1) (by omega)
      rw [show m + (N - s - m - 1) = N - 1 - s by omega, h5] at k2
      have k3 := take_last k2.symm
      rw [show N - s - m - 1 + 1 = N - s - m by omega] at k3
      exact ⟨x, y, drop_head k1.symm, k3, h6⟩
theorem mem_mid {α : Type} {k : α} {X u v p z Z : List α} (h : k ∈ X ++ u ++ p ++ ((v ++ z) ++ Z)) : k ∈ X ++ (u ++ v) ++ (p ++ z) ++ Z := by
  simp only [List.mem_append] at h ⊢
  rcases h with ((h | h) | h) | ((h | h) | h)
  · exact .inl (.inl (.inl h))
  · exact .inl (.inl (.inr (.inl h)))
  · exact .inl (.inr (.inl h))
  · exact .inl (.inl (.inr (.inr h)))
  · exact .inl (.inr (.inr h))
  · exact .inr h
def MergeC (f : Nat) : Prop := ∀ (w : World) (b n c : Nat) (more : List Value) (X A B Z : List Zel), A.length + B.length ≤ f → SrtAt w b n more (X ++ A ++ B ++ Z) w → A ≠ [] → B ≠ [] → Desc zkey A → Desc zkey B → n ≤ 200000 → (∀ z, z ∈ X ++ A ++ B ++ Z → z.1.1 ≤ 1000000) →
    Calls Tryd.prog 65 #[.slice (some ⟨b, 0, none⟩) n c, .int .i64 X.length, .int .i64 ((X.length + A.length : Nat) : Int), .int .i64 ((X.length + A.length + B.length : Nat) : Int), .func (.func 60) #[] #[]] w (SrtPost w b n more X (A ++ B) Z)
set_option maxRecDepth 100000 in
set_option maxHeartbeats 32000000 in
theorem pmerge_gen (f : Nat) (IH : MergeC f) (w : World) (b n c : Nat) (more : List Value) (X A B Z : List Zel) (hf : A.length + B.length ≤ f + 1) (h : SrtAt w b n more (X ++ A ++ B ++ Z) w) (hA : 2 ≤ A.length) (hB : 2 ≤ B.length) (hda : Desc zkey A) (hdb : Desc zkey B) (hn : n ≤ 200000) (hk : ∀ z, z ∈ X ++ A ++ B ++ Z → z.1.1 ≤ 1000000) :
    Calls Tryd.prog 65 #[.slice (some ⟨b, 0, none⟩) n c, .int .i64 X.length, .int .i64 ((X.length + A.length : Nat) : Int), .int .i64 ((X.length + A.length + B.length : Nat) : Int), .func (.func 60) #[] #[]] w (SrtPost w b n more X (A ++ B) Z) := by
  obtain ⟨a, ha⟩ : ∃ a, a = X.length := ⟨_, rfl⟩
  obtain ⟨m, hm⟩ : ∃ m, m = X.length + A.length := ⟨_, rfl⟩
  obtain ⟨e, he⟩ : ∃ e, e = X.length + A.length + B.length := ⟨_, rfl⟩
  rw [← he, ← hm, ← ha]
  have hen : e ≤ n := by have := h.2.2.1; simp at this; omega
  have hma : a + 2 ≤ m := by omega
  have hme : m + 2 ≤ e := by omega
  have h1 : (wrap64 ((m : Int) - (a : Int)) == 1) = false := by
    have : wrap64 ((m : Int) - (a : Int)) ≠ 1 := by unfold wrap64; omega
    exact beq_eq_false_iff_ne.2 this
  have h2 : (wrap64 ((e : Int) - (m : Int)) == 1) = false := by
    have : wrap64 ((e : Int) - (m : Int)) ≠ 1 := by unfold wrap64; omega
    exact beq_eq_false_iff_ne.2 this
  have HM := hid (⟨ha, hm, he⟩ : _ ∧ _ ∧ _)
  obtain ⟨L, hL⟩ : ∃ L, L = X ++ A ++ B ++ Z := ⟨_, rfl⟩
  rw [← hL] at h hk
  have HL := hid hL
  have HH := hid h
  have HK := hid hk
  have HD := hid (⟨hda, hdb⟩ : _ ∧ _)
  have HF := hid hf
  have HIH := hid IH
  have HLA : Hid (∀ t, t < A.length → L[a + t]? = A[t]?) := fun t ht => by
    rw [hL, ha, List.append_assoc, List.append_assoc, List.getElem?_append_right (by omega), List.getElem?_append_left (by omega)]
    congr 1
    omega
  have HLB : Hid (∀ t, t < B.length → L[m + t]? = B[t]?) := fun t ht => by
    rw [hL, hm, List.append_assoc, ← List.length_append, List.getElem?_append_right (by omega), List.getElem?_append_left (by omega)]
    congr 1
    omega
  have hln : L.length = n := h.2.2.1
  have HLN := hid hln
  clear h hk hda hdb hf ha hm he hL hln hA hB IH
  go_enter Tryd.func65, Tryd.ntmps65
  go_upto_region 26 with fail
  have hhf : ((a : Int) + (e : Int)) / 2 = (((a + e) / 2 : Nat) : Int) := by omega
  rw [hhf]
  clear hhf
  obtain ⟨md, hmd⟩ : ∃ md, md = (a + e) / 2 := ⟨_, rfl⟩
  rw [← hmd]
  obtain ⟨N, hN⟩ : ∃ N, N = md + m := ⟨_, rfl⟩
  rw [show (md : Int) + (m : Int) = (N : Int) by omega]
  have hamd : a < md := by omega
  have hmde : md < e := by omega
  have hms : md - a ≤ e - md ∧ e - md ≤ md - a + 1 := by omega
  have HN := hid hN
  clear hmd hN
  rename_i K26 hK26
  have HK26 := hid hK26
  clear hK26
  go_wp2_with fail
  refine HK26.out _ _ ?_
  clear HK26
  apply wp_seq_k
  intro K27 hK27
  go_cut [20, 21] from 25 (fun v20 v21 (y : World) => ∃ s0 r0 : Nat, v20 = .int .i64 s0 ∧ v21 = .int .i64 r0 ∧ (a ≤ s0 ∧ s0 ≤ r0 ∧ r0 ≤ m ∧ N ≤ e + s0 ∧ m + r0 ≤ N) ∧ Hid (s0 = a ∨ N = e + s0) ∧ Hid (r0 = m ∨ N = m + r0) ∧ SrtAt w b n more L y)
  case first =>
    clear hK27
    by_cases hg : md < m
    · have hgI : (md : Int) < (m : Int) := by omega
      have hws : IntKind.i64.wrap ((N : Int) - (e : Int)) = ((N - e : Nat) : Int) := by rw [IntKind.wrap_i64]; have := HN.out; omega
      go_wp2_with fail
      go_meet
      have hN := HN.out
      exact ⟨N - e, md, rfl, rfl, by omega, .inr (by omega), .inr (by omega), HH.out⟩
    · have hgI : ¬ (md : Int) < (m : Int) := by omega
      go_wp2_with fail
      go_meet
      have hN := HN.out
      exact ⟨a, m, rfl, rfl, by omega, .inl rfl, .inl rfl, HH.out⟩
  obtain ⟨s0, r0, rfl, rfl, ⟨hb1, hb2, hb3, hb4, hb5⟩, HS0, HR0, hst0⟩ := hcut
  have HH := hid hst0
  clear hst0
  generalize wc = w1 at HH ⊢
  refine hK27 _ _ ?_
  clear hK27
  skip
  · go_wp2_with fail
    go_loopw [20, 21] (fun v20 v21 wr => ∃ (s r : Nat), v20 = .int .i64 s ∧ v21 = .int .i64 r ∧ s0 ≤ s ∧ s ≤ r ∧ r ≤ r0 ∧ Hid (SrtAt w b n more L wr ∧ SeekM s r s0 r0 N L)) (fun v20 v21 _ => (intOf v21).toNat - (intOf v20).toNat)
    case atStart => exact ⟨s0, r0, rfl, rfl, by omega, by omega, by omega, HH.out, .inl rfl, .inl rfl⟩
    case round =>
      obtain ⟨s, r, rfl, rfl, hss, hsr, hrr, HX⟩ := hrel
      by_cases hlt : s < r
      · have hltI : (s : Int) < (r : Int) := by omega
        go_upto_region 35 with fail
        have hhf : ((s : Int) + (r : Int)) / 2 = (((s + r) / 2 : Nat) : Int) := by omega
        rw [hhf]
        clear hhf
        obtain ⟨d, hd⟩ : ∃ d, d = (s + r) / 2 := ⟨_, rfl⟩
        rw [← hd]
        have hsd : s ≤ d := by omega
        have hdr : d < r := by omega
        clear hd
        obtain ⟨q, hq⟩ : ∃ q, q = N - 1 - d := ⟨_, rfl⟩
        have hqn : q < n := by have := HN.out; omega
        have hdn : d < n := by omega
        have hqnI : (q : Int) < (n : Int) := by omega
        have hdnI : (d : Int) < (n : Int) := by omega
        have hwq : IntKind.i64.wrap ((N : Int) - 1 - (d : Int)) = (q : Int) := by rw [IntKind.wrap_i64]; omega
        have HQ := hid hq
        clear hq
        have hdl : d < L.length := by have := HLN.out; omega
        have hql : q < L.length := by have := HLN.out; omega
        have HXD : Hid (L[d]? = some L[d]) := List.getElem?_eq_getElem hdl
        have HYD : Hid (L[q]? = some L[q]) := List.getElem?_eq_getElem hql
        have hx6 : L[d].1.1 ≤ 1000000 := HK.out _ (List.getElem_mem hdl)
        have hy6 : L[q].1.1 ≤ 1000000 := HK.out _ (List.getElem_mem hql)
        generalize L[d] = x0 at HXD hx6
        generalize L[q] = y0 at HYD hy6
        obtain ⟨⟨x1, xs⟩, xa, xn, xc⟩ := x0
        obtain ⟨⟨y1, ys⟩, ya, yn, yc⟩ := y0
        dsimp only at hx6 hy6
        have q0 := HX.out.1.cells HXD.out
        have q1 := HX.out.1.cells HYD.out
        have HC := hid (fun (x : World) (hx : Grow wr.drew x) => (⟨(HX.out.1.later (grow_below hx)).cells HXD.out, (HX.out.1.later (grow_below hx)).cells HYD.out⟩ : _ ∧ _))
        dsimp only at HC q0 q1
        refine wp_region_inv 14 (Grow) (by kernel_rfl) (by kernel_rfl) (Grow.refl) (fun _ _ _ => Grow.trans) ?_
        simp only [fill, dstOf, Act.put, List.take_succ_cons, List.take_zero, List.getElem?_toArray, List.getElem?_cons_zero, List.getElem?_cons_succ, Option.bind_some, List.setIfInBounds_toArray, List.set_cons_zero, List.set_cons_succ]
        refine Plan.det 1 rfl (Grow.refl) ?_
        apply Exists.intro
        refine ⟨fun vs x hR hF K hK => ?_, ?_⟩
        · clear hF
          go_simp
          exact hK _ _ (Grow.refl _) rfl
        refine Plan.det 2 rfl (Grow.refl) ?_
        apply Exists.intro
        refine ⟨fun vs x hR hF K hK => ?_, ?_⟩
        · clear hF
          go_simp
          exact hK _ _ (Grow.refl _) rfl
        refine Plan.det 3 rfl (Grow.refl) ?_
        apply Exists.intro
        refine ⟨fun vs x hR hF K hK => ?_, ?_⟩
        · clear hF
          go_simp
          exact hK _ _ (Grow.refl _) rfl
        refine Plan.det 4 rfl (Grow.refl) ?_
        apply Exists.intro
        refine ⟨fun vs x hR hF K hK => ?_, ?_⟩
        · clear hF
          go_simp
          exact hK _ _ (Grow.refl _) rfl
        refine Plan.det 5 rfl (Grow.refl) ?_
        apply Exists.intro
        refine ⟨fun vs x hR hF K hK => ?_, ?_⟩
        · have f2 := hF 1 _ _ rfl rfl; have f3 := hF 0 _ _ rfl rfl; clear hF
          go_simp
          exact hK _ _ (Grow.refl _) rfl
        refine Plan.det 6 rfl (Grow.refl) ?_
        apply Exists.intro
        refine ⟨fun vs x hR hF K hK => ?_, ?_⟩
        · have f1 := hF 3 _ _ rfl rfl; have f4 := hF 0 _ _ rfl rfl; clear hF
          go_simp
          exact hK _ _ (Grow.refl _) rfl
        refine Plan.det 7 rfl (Grow.refl) ?_
        apply Exists.intro
        refine ⟨fun vs x hR hF K hK => ?_, ?_⟩
        · have f5 := hF 0 _ _ rfl rfl; have hc := HC.out x hR; clear hF
          go_simp
          exact hK _ _ (Grow.refl _) rfl
        refine Plan.det 8 rfl (Grow.refl) ?_
        apply Exists.intro
        refine ⟨fun vs x hR hF K hK => ?_, ?_⟩
        · clear hF
          go_simp
          exact hK _ _ (Grow.refl _) rfl
        refine Plan.det 9 rfl (Grow.refl) ?_
        apply Exists.intro
        refine ⟨fun vs x hR hF K hK => ?_, ?_⟩
        · clear hF
          go_simp
          exact hK _ _ (Grow.refl _) rfl
        refine Plan.det 10 rfl (Grow.refl) ?_
        apply Exists.intro
        refine ⟨fun vs x hR hF K hK => ?_, ?_⟩
        · have f7 := hF 1 _ _ rfl rfl; have f8 := hF 0 _ _ rfl rfl; clear hF
          go_simp
          exact hK _ _ (Grow.refl _) rfl
        refine Plan.det 11 rfl (Grow.refl) ?_
        apply Exists.intro
        refine ⟨fun vs x hR hF K hK => ?_, ?_⟩
        · have f9 := hF 0 _ _ rfl rfl; have hc := HC.out x hR; clear hF
          go_simp
          exact hK _ _ (Grow.refl _) rfl
        refine Plan.det 12 rfl (Grow.refl) ?_
        apply Exists.intro
        refine ⟨fun vs x hR hF K hK => ?_, ?_⟩
        · have f0 := hF 10 _ _ rfl rfl; have f6 := hF 4 _ _ rfl rfl; have f10 := hF 0 _ _ rfl rfl; clear hF
          go_simp
          refine (pcmp_any x y1 x1 ya xa yn xn yc xc hy6 hx6).mono ?_
          rintro e x1 ⟨rfl, hbe⟩
          exact ⟨_, rfl, hK _ _ hbe rfl⟩
        refine Plan.det 13 rfl (Grow.refl) ?_
        apply Exists.intro
        refine ⟨fun vs x hR hF K hK => ?_, ?_⟩
        · have f11 := hF 0 _ _ rfl rfl; clear hF
          go_simp
          exact hK _ _ (Grow.refl _) rfl
        refine Plan.det 14 rfl (Grow.refl) ?_
        apply Exists.intro
        refine ⟨fun vs x hR hF K hK => ?_, ?_⟩
        · have f12 := hF 0 _ _ rfl rfl; clear hF
          go_simp
          exact hK _ _ (Grow.refl _) rfl
        refine Plan.nil (fun vs x hR hF => ?_)
        have f0 := hF 13 _ _ rfl; have f1 := hF 12 _ _ rfl; have f2 := hF 11 _ _ rfl; have f3 := hF 10 _ _ rfl; have f4 := hF 9 _ _ rfl; have f5 := hF 8 _ _ rfl; have f6 := hF 7 _ _ rfl; have f7 := hF 6 _ _ rfl; have f8 := hF 5 _ _ rfl; have f9 := hF 4 _ _ rfl; have f10 := hF 3 _ _ rfl; have f11 := hF 2 _ _ rfl; have f12 := hF 1 _ _ rfl; have f13 := hF 0 _ _ rfl
        clear hF
        simp only [f0, f1, f2, f3, f4, f5, f6, f7, f8, f9, f10, f11, f12, f13]
        clear f0 f1 f2 f3 f4 f5 f6 f7 f8 f9 f10 f11 f12 f13
        simp only [List.drop_succ_cons, List.drop_zero]
        have HX2 := hid (HX.out.1.later (grow_below hR))
        have HSK := hid HX.out.2
        clear HC q0 q1 hR HX
        by_cases hc : (x1 : Int) - (y1 : Int) < 0
        · have HN2 : Hid (SrtAt w b n more L x ∧ SeekM s d s0 r0 N L) := ⟨HX2.out, HSK.out.1, .inr ⟨_, _, HXD.out, by rw [← HQ.out]; exact HYD.out, by show (x1 : Int) < y1; omega⟩⟩
          clear HX2 HSK
          rw [decide_eq_true hc]
          go_wp2_with fail
          refine ⟨⟨s, d, rfl, rfl, by omega, by omega, by omega, HN2.out⟩, ?_⟩
          simp [intOf] <;> omega
        · have HN2 : Hid (SrtAt w b n more L x ∧ SeekM (d + 1) r s0 r0 N L) := ⟨HX2.out, .inr ⟨_, _, by omega, HXD.out, by rw [show N - (d + 1) = q by have := HQ.out; omega]; exact HYD.out, by show (y1 : Int) ≤ x1; omega⟩, HSK.out.2⟩
          clear HX2 HSK
          rw [decide_eq_false hc]
          go_wp2_with fail
          refine ⟨⟨d + 1, r, by go_num, rfl, by omega, by omega, by omega, HN2.out⟩, ?_⟩
          simp [intOf] <;> omega
      · obtain rfl : s = r := by omega
        have hltI : ¬ (s : Int) < (s : Int) := by omega
        have HSK := hid HX.out.2
        have HST := hid HX.out.1
        clear HX HH
        obtain ⟨en, hen2⟩ : ∃ en, en = N - s := ⟨_, rfl⟩
        have hwe : IntKind.i64.wrap ((N : Int) - (s : Int)) = (en : Int) := by rw [IntKind.wrap_i64]; omega
        have hse : a ≤ s ∧ s ≤ m ∧ m ≤ en ∧ en ≤ e := by omega
        have hsn : s + en = md + m := by have := HN.out; omega
        have HCUT := hid (seekM_cut (s := s) (N := N) (s0 := s0) (r0 := r0) (by have := HM.out; omega : m = a + A.length) (by have := HM.out; omega : e = m + B.length) HLA.out HLB.out (by omega) HS0.out HR0.out HSK.out)
        rw [show N - s - m = en - m by omega] at HCUT
        obtain ⟨u, hu⟩ : ∃ u, u = A.take (s - a) := ⟨_, rfl⟩
        obtain ⟨v, hv⟩ : ∃ v, v = A.drop (s - a) := ⟨_, rfl⟩
        obtain ⟨p, hp⟩ : ∃ p, p = B.take (en - m) := ⟨_, rfl⟩
        obtain ⟨z, hz⟩ : ∃ z, z = B.drop (en - m) := ⟨_, rfl⟩
        rw [← hu, ← hv, ← hp, ← hz] at HCUT
        have hAuv : A = u ++ v := by rw [hu, hv, List.take_append_drop]
        have hBpz : B = p ++ z := by rw [hp, hz, List.take_append_drop]
        have hul : u.length = s - a := by rw [hu, List.length_take]; have := HM.out; omega
        have hvl : v.length = m - s := by rw [hv, List.length_drop]; have := HM.out; omega
        have hpl : p.length = en - m := by rw [hp, List.length_take]; have := HM.out; omega
        have hzl : z.length = e - en := by rw [hz, List.length_drop]; have := HM.out; omega
        have HLEN := hid (⟨hul, hvl, hpl, hzl, HM.out.1⟩ : _ ∧ _ ∧ _ ∧ _ ∧ a = X.length)
        have HAB := hid (⟨hAuv, hBpz⟩ : _ ∧ _)
        have hst := HST.out
        rw [HL.out, hAuv, hBpz] at hst
        have HST2 := hid hst
        have hd := HD.out
        rw [hAuv, hBpz] at hd
        have HD2 := hid hd
        have HK2 : Hid (∀ k, k ∈ X ++ (u ++ v) ++ (p ++ z) ++ Z → k.1.1 ≤ 1000000) := fun k hk => HK.out k (by rw [HL.out, hAuv, hBpz]; exact hk)
        clear hu hv hp hz hAuv hBpz hul hvl hpl hzl hst hd HST HSK HS0 HR0 hen2 HLA HLB hlt hltI
        go_upto_region 38 with fail
        rename_i K38 hK38
        have HK38 := hid hK38
        clear hK38
        go_wp2_with fail
        refine HK38.out _ _ ?_
        clear HK38 hwe
        apply wp_seq_k
        intro K1 hK1
        go_cut [] from 25 (fun (y : World) => SrtAt w b n more (X ++ (u ++ p) ++ (v ++ z) ++ Z) y)
        case first =>
          clear hK1
          have hr3 : ((s : Int) < (m : Int) ∧ (m : Int) < (en : Int) ∧ v ≠ [] ∧ p ≠ []) ∨ ((¬ (s : Int) < (m : Int) ∨ ((s : Int) < (m : Int) ∧ ¬ (m : Int) < (en : Int))) ∧ Hid (v = [] ∨ p = [])) := by
            by_cases g1 : s < m
            · by_cases g2 : m < en
              · refine .inl ⟨by omega, by omega, fun e => ?_, fun e => ?_⟩
                · have := HLEN.out.2.1; rw [e] at this; simp at this; omega
                · have := HLEN.out.2.2.1; rw [e] at this; simp at this; omega
              · exact .inr ⟨.inr ⟨by omega, by omega⟩, .inr (List.eq_nil_of_length_eq_zero (by have := HLEN.out.2.2.1; omega))⟩
            · exact .inr ⟨.inl (by omega), .inl (List.eq_nil_of_length_eq_zero (by have := HLEN.out.2.1; omega))⟩
          rcases hr3 with ⟨g1, g2, g3, g4⟩ | ⟨g1 | ⟨g1, g2⟩, HE⟩
          · have hc := protate_any w wr b n c more (X ++ u) v p (z ++ Z) (by simpa using HST2.out) g3 g4 hn
            have l1 : (X ++ u).length = s := by rw [List.length_append, ← HLEN.out.2.2.2.2, HLEN.out.1]; omega
            have l2 : s + v.length = m := by rw [HLEN.out.2.1]; omega
            have l3 : m + p.length = en := by rw [HLEN.out.2.2.1]; omega
            rw [l1, l2, l3] at hc
            have HC := hid hc
            clear hc l1 l2 l3 g3 g4
            go_wp2_with fail
            refine HC.out.mono ?_
            rintro e1 y ⟨rfl, hy⟩
            clear HC
            have HY := hid hy
            clear hy
            go_wp2_with fail
            go_meet
            simpa using HY.out
          all_goals
            go_wp2_with fail
            go_meet
            have h5 := HST2.out
            rcases HE.out with e | e <;> rw [e] at h5 ⊢ <;> simpa using h5
        have HY := hid hcut
        clear hcut HST2
        generalize wc = y at HY ⊢
        refine hK1 _ _ ?_
        clear hK1
        apply wp_seq_k
        intro K2 hK2
        go_cut [] from 25 (fun (y' : World) => ∃ M1, SrtAt w b n more (X ++ M1 ++ (v ++ z) ++ Z) y' ∧ Desc zkey M1 ∧ SameF zkey (u ++ p) M1)
        case first =>
          clear hK2
          have hr3 : ((a : Int) < (s : Int) ∧ (s : Int) < (md : Int) ∧ u ≠ [] ∧ p ≠ []) ∨ ((¬ (a : Int) < (s : Int) ∨ ((a : Int) < (s : Int) ∧ ¬ (s : Int) < (md : Int))) ∧ Hid (u = [] ∨ p = [])) := by
            by_cases g1 : a < s
            · by_cases g2 : s < md
              · refine .inl ⟨by omega, by omega, fun e => ?_, fun e => ?_⟩
                · have := HLEN.out.1; rw [e] at this; simp at this; omega
                · have := HLEN.out.2.2.1; rw [e] at this; simp at this; omega
              · exact .inr ⟨.inr ⟨by omega, by omega⟩, .inr (List.eq_nil_of_length_eq_zero (by have := HLEN.out.2.2.1; omega))⟩
            · exact .inr ⟨.inl (by omega), .inl (List.eq_nil_of_length_eq_zero (by have := HLEN.out.1; omega))⟩
          rcases hr3 with ⟨g1, g2, g3, g4⟩ | ⟨g1 | ⟨g1, g2⟩, HE⟩
          · have hself : SrtAt y b n more (X ++ u ++ p ++ ((v ++ z) ++ Z)) y := ⟨by simpa using HY.out.1, But.refl _ _, by simpa using HY.out.2.2.1, HY.out.1.lt⟩
            have hfl1 : u.length + p.length ≤ f := by
              have h5 := HF.out
              rw [HAB.out.1, HAB.out.2, List.length_append, List.length_append] at h5
              have h7 := HLEN.out.2.2.2.1
              have h8 := HLEN.out.2.1
              omega
            have hc := HIH.out y b n c more X u p ((v ++ z) ++ Z) hfl1 hself g3 g4 HD2.out.1.left HD2.out.2.left hn (fun k hk => HK2.out k (mem_mid hk))
            have l1 : a + u.length = s := by rw [HLEN.out.1]; omega
            have l2 : s + p.length = md := by rw [HLEN.out.2.2.1]; omega
            rw [← HLEN.out.2.2.2.2, l1, l2] at hc
            have HC := hid hc
            clear hc l1 l2 g3 g4 hself
            go_wp2_with fail
            refine HC.out.mono ?_
            rintro e1 y2 ⟨rfl, M1, hy, hd1, hs1⟩
            clear HC
            have HY2 := hid (⟨HY.out.trans hy, hd1, hs1⟩ : _ ∧ _ ∧ _)
            clear hy hd1 hs1
            go_wp2_with fail
            go_meet
            exact ⟨M1, by simpa using HY2.out.1, HY2.out.2.1, HY2.out.2.2⟩
          all_goals
            go_wp2_with fail
            go_meet
            refine ⟨u ++ p, HY.out, ?_, SameF.refl _⟩
            have h5 := HD2.out.1.left
            have h6 := HD2.out.2.left
            rcases HE.out with e | e
            · rw [e]; simpa using h6
            · rw [e]; simpa using h5
        obtain ⟨M1, hcut⟩ := hcut
        have HY2 := hid hcut
        clear hcut HY
        generalize wc = y2 at HY2 ⊢
        refine hK2 _ _ ?_
        clear hK2
        have hM1l : M1.length = md - a := by rw [← HY2.out.2.2.length, List.length_append, HLEN.out.1, HLEN.out.2.2.1]; omega
        have HM1 := hid hM1l
        clear hM1l
        have hr3 : ((md : Int) < (en : Int) ∧ (en : Int) < (e : Int) ∧ v ≠ [] ∧ z ≠ []) ∨ ((¬ (md : Int) < (en : Int) ∨ ((md : Int) < (en : Int) ∧ ¬ (en : Int) < (e : Int))) ∧ Hid (v = [] ∨ z = [])) := by
          by_cases g1 : md < en
          · by_cases g2 : en < e
            · refine .inl ⟨by omega, by omega, fun e => ?_, fun e => ?_⟩
              · have := HLEN.out.2.1; rw [e] at this; simp at this; omega
              · have := HLEN.out.2.2.2.1; rw [e] at this; simp at this; omega
            · exact .inr ⟨.inr ⟨by omega, by omega⟩, .inr (List.eq_nil_of_length_eq_zero (by have := HLEN.out.2.2.2.1; omega))⟩
          · exact .inr ⟨.inl (by omega), .inl (List.eq_nil_of_length_eq_zero (by have := HLEN.out.2.1; omega))⟩
        rcases hr3 with ⟨g1, g2, g3, g4⟩ | ⟨g1 | ⟨g1, g2⟩, HE⟩
        · have hself : SrtAt y2 b n more ((X ++ M1) ++ v ++ z ++ Z) y2 := ⟨by simpa using HY2.out.1.1, But.refl _ _, by simpa using HY2.out.1.2.2.1, HY2.out.1.1.lt⟩
          have hfl1 : v.length + z.length ≤ f := by
            have h5 := HF.out
            rw [HAB.out.1, HAB.out.2, List.length_append, List.length_append] at h5
            have h7 := HLEN.out.1
            have h8 := HLEN.out.2.2.1
            omega
          have hc := HIH.out y2 b n c more (X ++ M1) v z Z hfl1 hself g3 g4 HD2.out.1.right HD2.out.2.right hn (fun k hk => HK2.out k (by
            have h8 := fun h => HY2.out.2.2.symm.mem (x := k) h
            simp at hk h8 ⊢
            rcases hk with h | h | h | h | h
            · exact .inl h
            · rcases h8 h with h | h
              · exact .inr (.inl h)
              · exact .inr (.inr (.inr (.inl h)))
            · exact .inr (.inr (.inl h))
            · exact .inr (.inr (.inr (.inr (.inl h))))
            · exact .inr (.inr (.inr (.inr (.inr h))))))
          have l1 : (X ++ M1).length = md := by rw [List.length_append, ← HLEN.out.2.2.2.2, HM1.out]; omega
          have l2 : md + v.length = en := by rw [HLEN.out.2.1]; omega
          have l3 : en + z.length = e := by rw [HLEN.out.2.2.2.1]; omega
          rw [l1, l2, l3] at hc
          have HC := hid hc
          clear hc l1 l2 l3 g3 g4 hself
          go_wp2_with fail
          refine HC.out.mono ?_
          rintro e1 y3 ⟨rfl, M2, hy, hd2, hs2⟩
          have HFIN : Hid (SrtPost w b n more X (A ++ B) Z (.returned (.tuple #[])) y3) := by
            have hmp := merge_parts HD2.out.1 HD2.out.2 HCUT.out.1 HCUT.out.2 HY2.out.2.1 hd2 HY2.out.2.2 hs2
            refine ⟨rfl, M1 ++ M2, by simpa using HY2.out.1.trans hy, hmp.1, ?_⟩
            rw [HAB.out.1, HAB.out.2]
            exact hmp.2
          clear hy hd2 hs2 HC
          go_wp2_with fail
          go_end0
          exact HFIN.out
        all_goals
          have hdvz : Desc zkey (v ++ z) := by
            have h5 := HD2.out.1.right
            have h6 := HD2.out.2.right
            rcases HE.out with e | e
            · rw [e]; simpa using h6
            · rw [e]; simpa using h5
          have HFIN : Hid (SrtPost w b n more X (A ++ B) Z (.returned (.tuple #[])) y2) := by
            have hmp := merge_parts HD2.out.1 HD2.out.2 HCUT.out.1 HCUT.out.2 HY2.out.2.1 hdvz HY2.out.2.2 (SameF.refl _)
            refine ⟨rfl, M1 ++ (v ++ z), by simpa using HY2.out.1, hmp.1, ?_⟩
            rw [HAB.out.1, HAB.out.2]
            exact hmp.2
          clear hdvz
          go_wp2_with fail
          go_end0
          exact HFIN.out
end Go.Proofs.YthnpbopnpdlmnaaDoor
