/- The law ReprogAgrees: reach. -/
import Derived.Test.YthnpbopnpdlmnaaDoorA22
namespace Go.Proofs.YthnpbopnpdlmnaaDoor
open Go.RowKit
attribute [local go_sem] gives givesUpon

set_option maxRecDepth 100000 in
set_option maxHeartbeats 16000000 in
theorem reach_any (m : Sim) (ib io : Nat) (c : Nat) (str : ByteArray) (i : Nat) (hs : m.s = str.data.toList) (hi : i ≤ str.size) (hz : str.size ≤ 1000000) (hR : rightAll m.L) : ∀ (n : Nat) (w : World) (base : Nat) (v : Value) (l : List Nat) (k : Nat), m.L.length + 1 - l.length ≤ n → RcIn w m (some ⟨ib, io, none⟩) base v l → k < m.L.length →
    Calls Tryd.prog 9 #[.agg #[.slice (some ⟨ib, io, none⟩) m.L.length c, .bool m.lines], .string str, .int .i64 i, .int .i64 k, v] w (RcPost m i k base v l w) := by
  have HS := hid (⟨hs, hi, hz⟩ : _ ∧ _ ∧ _)
  have HRR := hid hR
  clear hs hi hz hR
  intro n
  induction n with
  | zero =>
    intro w base v l k hn hin hk
    have hlen := List.Nodup.length_le_of_subset hin.nd (fun x hx => List.mem_range.2 (hin.lt x hx) : l ⊆ List.range m.L.length)
    rw [List.length_range] at hlen
    omega
  | succ n ih =>
    intro w base v l k hn hin hk
    have HIH := hid ih
    clear ih
    obtain ⟨va, vc, rfl⟩ := hin.own.form
    have hlen : l.length ≤ m.L.length := by
      have := List.Nodup.length_le_of_subset hin.nd (fun x hx => List.mem_range.2 (hin.lt x hx) : l ⊆ List.range m.L.length)
      rwa [List.length_range] at this
    have hlen4 : m.L.length ≤ 4096 := HRR.out.1.2
    have hal := (Below.refl w.heap.size w).alloc (Nat.le_refl _) (.cells #[.slice (some ⟨ib, io, none⟩) m.L.length c, .bool m.lines] 35)
    have HAL := hid hal
    have HIN := hid hin
    have HO1 := hid (hin.own.below hal)
    have HI1 := hid (hin.ins.below hal (Nat.le_refl _))
    have HR1 := hid (Row.new rfl : Row (w.alloc (.cells #[.slice (some ⟨ib, io, none⟩) m.L.length c, .bool m.lines] 35)) w.heap.size [.slice (some ⟨ib, io, none⟩) m.L.length c, .bool m.lines] 35)
    have HK := hid hk
    have HN := hid hn
    have hkI : (k : Int) < m.L.length := by omega
    clear hal hin hk hn
    go_enter Tryd.func9, Tryd.ntmps9
    go_upto_region 1 with fail
    have hw1 : ∃ s1, s1 = ((w.alloc (.cells #[.slice (some ⟨ib, io, none⟩) m.L.length c, .bool m.lines] 35))).heap.size := ⟨_, rfl⟩
    generalize w.alloc (.cells #[.slice (some ⟨ib, io, none⟩) m.L.length c, .bool m.lines] 35) = w1 at *
    obtain ⟨b0, hb0⟩ : ∃ b, b = w.heap.size := ⟨_, rfl⟩
    rw [← hb0] at HR1 ⊢
    have HB0 := hid hb0
    clear hb0 hw1
    go_wp2_with fail
    go_loopw [11] (fun ix wr => ∃ j : Nat, j ≤ l.length ∧ ix = .int .i64 j ∧ Hid (wr = w1) ∧ Hid (k ∉ l.take j)) (fun ix _ => l.length - (intOf ix).toNat)
    case atStart => exact ⟨0, Nat.zero_le _, rfl, hid rfl, hid (by simp)⟩
    case round =>
      obtain ⟨j, hj, rfl, HW, HT⟩ := hrel
      by_cases hlt : j < l.length
      · have hne : l ≠ [] := by rintro rfl; simp at hlt
        obtain ⟨bb, cc, x, hlk, hv, hbb, hc0⟩ := (HO1.out.q (fun h => absurd h hne)).get hlt
        rw [← HW.out] at hc0
        have hjI : (j : Int) < l.length := by omega
        have hel : l[j] = x := Option.some.inj ((List.getElem?_eq_getElem hlt).symm.trans hlk)
        have hmem : x ∈ l := by rw [← hel]; exact List.getElem_mem _
        have HTN : Hid (x ≠ k → k ∉ l.take (j + 1)) := fun hx hm => by
          rw [List.take_succ_eq_append_getElem hlt, hel, List.mem_append, List.mem_singleton] at hm
          rcases hm with hm | hm
          · exact HT.out hm
          · exact hx hm.symm
        have HMEM := hid hmem
        clear hel hlk hne hmem
        injection hv with hv1 hv2 hv3
        subst hv1
        subst hv3
        by_cases hq : x = k
        · have hq2 : ((x : Int) == (k : Int)) = true := by simp; omega
          have HKM : Hid (k ∈ l) := by rw [← hq]; exact HMEM.out
          clear hq HTN HMEM
          go_wp2_with fail
          go_ret
          have hwr : wr = w1 := HW.out
          subst hwr
          refine ⟨l, _, _, rfl, HO1.out, RchP.old HKM.out HIN.out.nd HIN.out.lt, ?_, fun g hg => .inl hg⟩
          exact But.of_below HAL.out
        · have hq2 : ((x : Int) == (k : Int)) = false := by simp; omega
          have HE := hid (HTN.out hq)
          clear hq HTN HMEM
          go_wp2_with fail
          refine ⟨⟨j + 1, by omega, by go_num, hid HW.out, HE⟩, ?_⟩
          simp [intOf]; omega
      · have hjI : ¬ (j : Int) < l.length := by omega
        have KN : Hid (k ∉ l) := by have := HT.out; rwa [List.take_of_length_le (by omega)] at this
        have hwr : wr = w1 := HW.out
        subst hwr
        clear HT HW
        obtain ⟨i0, hii, hz0, hz1, hz2⟩ := info_parts info_int
        have HA1 : Hid (wr.ownsRow base 3 1 (.slice va l.length vc) l.length (l.map nv9)) := HO1.out
        have hbw : base ≤ wr.heap.size := by have := HAL.out.size; have := HIN.out.bs; have := HB0.out; omega
        go_wp2_with (at_builtin; refine wpList_append_row rfl _ _ 43 rfl base 3 i0 (.int .i64 0) 1 8 Tryd.underlying43 hii hz0 hz1 hz2 rfl (by decide) _ _ _ rfl (HA1.out.alloc _) ⟨wr.heap.size, 0, none⟩ 1 1 [.int .i64 k] rfl rfl ?c1 ?c2 ?c3 ?c4 ?c5 (by decide) ?_)
        case c2 => first | rfl | (intro u hu; simp at hu; subst hu; rfl)
        case c3 => unfold maxLen; omega
        case c4 => omega
        case c5 => first | omega | (simp; omega)
        intro a2 c2 w2 hown' hgrow hnw
        have hown2 : OwnN9 w2 base (.slice a2 (l.length + 1) c2) (l ++ [k]) := by
          unfold OwnN9
          rw [List.length_append, List.map_append]
          exact hown'
        have hbut : But (own (.slice va l.length vc)) w w2 := by
          have h1 : Below w.heap.size w wr := HAL.out
          exact But.trans ((But.of_below h1).alloc _) (But.of_grown hgrow)
        have hnew : ∀ g, g ∈ own (.slice a2 (l.length + 1) c2) → g ∈ own (.slice va l.length vc) ∨ w.heap.size ≤ g := fun g hg => by
          rcases hnw g ((own_form _ _ _ g).1 hg) with h | h
          · exact .inl ((own_form _ _ _ g).2 h)
          · refine .inr ?_
            have h1 : wr.heap.size + 1 ≤ g := by simpa using h
            have := HAL.out.size
            omega
        have hr2 : RchP m i k l (l ++ [k]) → True := fun _ => trivial
        have hin2 : RcIn w2 m (some ⟨ib, io, none⟩) base (.slice a2 (l.length + 1) c2) (l ++ [k]) := ⟨HIN.out.ins.but HIN.out.low hbut fun g hg => (HIN.out.own.blocks g hg).1, HIN.out.low, Nat.le_trans HIN.out.bs hbut.size, hown2, List.nodup_append.2 ⟨HIN.out.nd, by simp, fun u hu z hz => by have := List.mem_singleton.1 hz; subst this; rintro rfl; exact KN.out hu⟩, fun x hx => by
          rcases List.mem_append.1 hx with hx | hx
          · exact HIN.out.lt x hx
          · have := List.mem_singleton.1 hx; subst this; exact HK.out⟩
        have hP2 : Row w2 b0 [.slice (some ⟨ib, io, none⟩) m.L.length c, .bool m.lines] 35 := (HR1.out.alloc _).but (But.of_grown hgrow) (fun hm => by have := (HIN.out.own.blocks _ hm).2; have := HB0.out; omega)
        have HIN2 := hid hin2
        have HBUT := hid hbut
        have HNEW := hid hnew
        obtain ⟨ib', io', ha, hib, hic⟩ := hin2.ins.at HK.out
        injection ha with ha
        injection ha with ha1 ha2
        subst ha1; subst ha2
        have hinst : m.inst k = m.L[k] := Sim.inst_eq HK.out
        have hrt := Sim.right_of HRR.out HK.out
        generalize m.L[k] = I at hinst hic
        rw [hinst] at hrt
        obtain ⟨op, st, x, y⟩ := I
        have HII := hid hinst
        have HRT := hid hrt
        have g0 : w2.cell? ⟨ib, io + k * 7, none⟩ = some (.int .i64 op) := hic 0 _ rfl
        have g1 : w2.cell? ⟨ib, io + k * 7 + 1, none⟩ = some (.int .u64 st.a) := hic 1 _ rfl
        have g2 : w2.cell? ⟨ib, io + k * 7 + 2, none⟩ = some (.int .u64 st.b) := hic 2 _ rfl
        have g3 : w2.cell? ⟨ib, io + k * 7 + 3, none⟩ = some (.int .u64 st.c) := hic 3 _ rfl
        have g4 : w2.cell? ⟨ib, io + k * 7 + 4, none⟩ = some (.int .u64 st.d) := hic 4 _ rfl
        have g5 : w2.cell? ⟨ib, io + k * 7 + 5, none⟩ = some (.int .i64 x) := hic 5 _ rfl
        have g6 : w2.cell? ⟨ib, io + k * 7 + 6, none⟩ = some (.int .i64 y) := hic 6 _ rfl
        have hb0 := hP2.lt
        have q0 := hP2.cell 0
        have q1 := hP2.cell 1
        clear hown' hgrow hnw hown2 hbut hnew hin2 hic hinst hrt hii hz0 hz1 hz2 HA1 HO1 HI1
        go_upto_region 8 with fail
        have hal3 := (Below.refl w2.heap.size w2).alloc (Nat.le_refl _) (.cells #[.int .i64 op, .int .u64 st.a, .int .u64 st.b, .int .u64 st.c, .int .u64 st.d, .int .i64 x, .int .i64 y] 53)
        have HIN3 := hid (HIN2.out.below hal3)
        have HBUT3 := hid (HBUT.out.trans (But.of_below hal3))
        have HRW3 := hid (⟨hP2.below hal3 hP2.lt, Row.new rfl⟩ : Row _ b0 [.slice (some ⟨ib, io, none⟩) m.L.length c, .bool m.lines] 35 ∧ Row (w2.alloc (.cells #[.int .i64 op, .int .u64 st.a, .int .u64 st.b, .int .u64 st.c, .int .u64 st.d, .int .i64 x, .int .i64 y] 53)) w2.heap.size [.int .i64 op, .int .u64 st.a, .int .u64 st.b, .int .u64 st.c, .int .u64 st.d, .int .i64 x, .int .i64 y] 53)
        generalize w2.alloc (.cells #[.int .i64 op, .int .u64 st.a, .int .u64 st.b, .int .u64 st.c, .int .u64 st.d, .int .i64 x, .int .i64 y] 53) = w3 at *
        generalize w2.heap.size = b3 at *
        clear hP2 hal3 q0 q1 g0 g1 g2 g3 g4 g5 g6 hb0 hib HIN2 HBUT HR1
        have q0 := HRW3.out.1.cell 0
        have q1 := HRW3.out.1.cell 1
        have q2 := row7 HRW3.out.2
        have hz0 := HRW3.out.1.lt
        have hz3 := HRW3.out.2.lt
        have HLN : Hid (m.L.length + 1 - (l ++ [k]).length ≤ n) := by
          have := HN.out
          show _ ≤ n
          rw [List.length_append, List.length_singleton]; omega
        have hl1 : (l ++ [k]).length = l.length + 1 := by simp
        have HL1 := hid hl1
        have HEND : Hid (∀ (h : m.eps i k = []), RcPost m i k base (.slice va l.length vc) l w (.returned (.slice a2 (l.length + 1) c2)) w3) := fun h =>
          ⟨l ++ [k], a2, c2, by rw [HL1.out], by rw [HL1.out]; exact HIN3.out.own, RchP.leaf h KN.out HK.out HIN.out.nd HIN.out.lt, HBUT3.out, by rw [HL1.out]; exact HNEW.out⟩
        have hiz := HS.out
        clear hl1
        rcases HRT.out with ⟨h145, hk1⟩ | ⟨h2, hx, hy⟩ | ⟨h3, hx⟩ | h6
        · dsimp only at h145 hk1
          rcases h145 with rfl | rfl | rfl
          · have he : m.eps i k = [] := by unfold Sim.eps; rw [HII.out]; simp
            have HE := hid (HEND.out he)
            clear he HEND
            go_wp2_with fail
            go_ret
            exact HE.out
          · have HBO := hid (border_any w3 m str i false HS.out.1 HS.out.2.1 HS.out.2.2)
            obtain ⟨bg, hbg⟩ : ∃ b, b = m.begins i := ⟨_, rfl⟩
            rw [if_neg (by decide), ← hbg] at HBO
            cases bg with
            | false =>
              have he : m.eps i k = [] := by unfold Sim.eps; rw [HII.out, ← hbg]; simp
              have HE := hid (HEND.out he)
              clear he HEND hbg
              go_wp2_with fail
              refine HBO.out.mono ?_
              rintro e w4 ⟨rfl, rfl⟩
              go_wp2_with fail
              go_ret
              exact HE.out
            | true =>
              have he : m.eps i k = [k + 1] := by unfold Sim.eps; rw [HII.out, ← hbg]; simp
              have HE := hid he
              have hcall := HIH.out w3 base (.slice a2 (l.length + 1) c2) (l ++ [k]) (k + 1) HLN.out HIN3.out hk1
              rw [show ((k + 1 : Nat) : Int) = (k : Int) + 1 by omega] at hcall
              have HCALL := hid hcall
              clear he HEND hbg hcall
              go_wp2_with fail
              refine HBO.out.mono ?_
              rintro e w4 ⟨rfl, rfl⟩
              go_wp2_with fail
              refine HCALL.out.mono ?_
              rintro e w5 ⟨l4, a4, c4, rfl, ho4, hr4, hb4, hg4⟩
              have HF := hid (⟨l4, a4, c4, rfl, ho4, RchP.one HE.out hr4, but_trans HBUT3.out hb4 HNEW.out, own_trans HNEW.out hg4 HBUT3.out.size⟩ : RcPost m i k base (.slice va l.length vc) l w (.returned (.slice a4 l4.length c4)) w5)
              clear ho4 hr4 hb4 hg4
              go_wp2_with fail
              go_ret
              exact HF.out
          · have HBO := hid (border_any w3 m str i true HS.out.1 HS.out.2.1 HS.out.2.2)
            obtain ⟨bg, hbg⟩ : ∃ b, b = m.ends i := ⟨_, rfl⟩
            rw [if_pos rfl, ← hbg] at HBO
            cases bg with
            | false =>
              have he : m.eps i k = [] := by unfold Sim.eps; rw [HII.out, ← hbg]; simp
              have HE := hid (HEND.out he)
              clear he HEND hbg
              go_wp2_with fail
              refine HBO.out.mono ?_
              rintro e w4 ⟨rfl, rfl⟩
              go_wp2_with fail
              go_ret
              exact HE.out
            | true =>
              have he : m.eps i k = [k + 1] := by unfold Sim.eps; rw [HII.out, ← hbg]; simp
              have HE := hid he
              have hcall := HIH.out w3 base (.slice a2 (l.length + 1) c2) (l ++ [k]) (k + 1) HLN.out HIN3.out hk1
              rw [show ((k + 1 : Nat) : Int) = (k : Int) + 1 by omega] at hcall
              have HCALL := hid hcall
              clear he HEND hbg hcall
              go_wp2_with fail
              refine HBO.out.mono ?_
              rintro e w4 ⟨rfl, rfl⟩
              go_wp2_with fail
              refine HCALL.out.mono ?_
              rintro e w5 ⟨l4, a4, c4, rfl, ho4, hr4, hb4, hg4⟩
              have HF := hid (⟨l4, a4, c4, rfl, ho4, RchP.one HE.out hr4, but_trans HBUT3.out hb4 HNEW.out, own_trans HNEW.out hg4 HBUT3.out.size⟩ : RcPost m i k base (.slice va l.length vc) l w (.returned (.slice a4 l4.length c4)) w5)
              clear ho4 hr4 hb4 hg4
              go_wp2_with fail
              go_ret
              exact HF.out
        · dsimp only at h2 hx hy
          subst h2
          obtain ⟨X, rfl⟩ : ∃ X : Nat, x = X := ⟨x.toNat, by omega⟩
          obtain ⟨Y, rfl⟩ : ∃ Y : Nat, y = Y := ⟨y.toNat, by omega⟩
          have hX : X < m.L.length := by omega
          have hY : Y < m.L.length := by omega
          have he : m.eps i k = [Y, X] := by unfold Sim.eps; rw [HII.out]; simp
          have HE := hid he
          have HXY := hid (⟨hX, hY⟩ : _ ∧ _)
          have hn0 := HIN3.out.own.ne_row HRW3.out.1 (by decide)
          have hn3 := HIN3.out.own.ne_row HRW3.out.2 (by decide)
          have HC := hid (fun (z : World) (hz : Grow w3.drew z ∨ But (own (.slice a2 (l.length + 1) c2)) w3 z) => by
            have h1 : Row z b0 [.slice (some ⟨ib, io, none⟩) m.L.length c, .bool m.lines] 35 ∧ Row z b3 [.int .i64 2, .int .u64 st.a, .int .u64 st.b, .int .u64 st.c, .int .u64 st.d, .int .i64 X, .int .i64 Y] 53 := by
              rcases hz with hz | hz
              · exact ⟨HRW3.out.1.grow hz, HRW3.out.2.grow hz⟩
              · exact ⟨HRW3.out.1.but hz hn0, HRW3.out.2.but hz hn3⟩
            exact (⟨h1.1.cell 0, h1.1.cell 1, h1.2.cell 5, h1.2.cell 6⟩ : _ ∧ _ ∧ _ ∧ _))
          clear he HEND hn0 hn3 hx hy hX hY
          go_wp2_with fail
          refine wp_region_invW 12 11 (by decide) (Grow) (fun z => Grow w3.drew z) (fun z => But (own (.slice a2 (l.length + 1) c2)) w3 z) (by kernel_rfl) (by kernel_rfl) (Grow.refl) (fun x y h1 h2 => Grow.trans h2 h1) (fun x y h1 h2 => But.trans h2 (But.of_below h1)) (Grow.refl _) ?_
          simp only [fill, dstOf, Act.put, List.take_succ_cons, List.take_zero, List.getElem?_toArray, List.getElem?_cons_zero, List.getElem?_cons_succ, Option.bind_some, List.setIfInBounds_toArray, List.set_cons_zero, List.set_cons_succ]
          refine PlanW.det 1 rfl (by decide) (Grow.refl) ?_
          apply Exists.intro
          refine ⟨fun vs x hR hF K hK => ?_, ?_⟩
          · have hc := HC.out x hR; clear hF
            go_simp
            exact hK _ _ (Grow.refl _) rfl
          refine PlanW.det 2 rfl (by decide) (Grow.refl) ?_
          apply Exists.intro
          refine ⟨fun vs x hR hF K hK => ?_, ?_⟩
          · clear hF
            go_simp
            exact hK _ _ (Grow.refl _) rfl
          refine PlanW.det 3 rfl (by decide) (Grow.refl) ?_
          apply Exists.intro
          refine ⟨fun vs x hR hF K hK => ?_, ?_⟩
          · clear hF
            go_simp
            exact hK _ _ (Grow.refl _) rfl
          refine PlanW.det 4 rfl (by decide) (Grow.refl) ?_
          apply Exists.intro
          refine ⟨fun vs x hR hF K hK => ?_, ?_⟩
          · clear hF
            go_simp
            exact hK _ _ (Grow.refl _) rfl
          refine PlanW.det 5 rfl (by decide) (Grow.refl) ?_
          apply Exists.intro
          refine ⟨fun vs x hR hF K hK => ?_, ?_⟩
          · have f3 := hF 0 _ _ rfl rfl; have hc := HC.out x hR; clear hF
            go_simp
            exact hK _ _ (Grow.refl _) rfl
          refine PlanW.det 6 rfl (by decide) (Grow.refl) ?_
          apply Exists.intro
          refine ⟨fun vs x hR hF K hK => ?_, ?_⟩
          · have hc := HC.out x hR; clear hF
            go_simp
            exact hK _ _ (Grow.refl _) rfl
          refine PlanW.det 7 rfl (by decide) (Grow.refl) ?_
          apply Exists.intro
          refine ⟨fun vs x hR hF K hK => ?_, ?_⟩
          · clear hF
            go_simp
            exact hK _ _ (Grow.refl _) rfl
          refine PlanW.det 8 rfl (by decide) (Grow.refl) ?_
          apply Exists.intro
          refine ⟨fun vs x hR hF K hK => ?_, ?_⟩
          · clear hF
            go_simp
            exact hK _ _ (Grow.refl _) rfl
          refine PlanW.det 9 rfl (by decide) (Grow.refl) ?_
          apply Exists.intro
          refine ⟨fun vs x hR hF K hK => ?_, ?_⟩
          · clear hF
            go_simp
            exact hK _ _ (Grow.refl _) rfl
          refine PlanW.det 10 rfl (by decide) (Grow.refl) ?_
          apply Exists.intro
          refine ⟨fun vs x hR hF K hK => ?_, ?_⟩
          · have f8 := hF 0 _ _ rfl rfl; have hc := HC.out x hR; clear hF
            go_simp
            exact hK _ _ (Grow.refl _) rfl
          refine PlanW.det 11 rfl (by decide) (Grow.refl) ?_
          apply Exists.intro
          refine ⟨fun vs x hR hF K hK => ?_, ?_⟩
          · clear hF
            go_simp
            exact hK _ _ (Grow.refl _) rfl
          refine PlanW.call 12 rfl (fun v z => ∃ (l1 : List Nat) (a1 : Option Addr) (c1 : Nat), v = .slice a1 l1.length c1 ∧ OwnN9 z base v l1 ∧ RchP m i X (l ++ [k]) l1 ∧ ∀ g, g ∈ own v → g ∈ own (.slice a2 (l.length + 1) c2) ∨ w3.heap.size ≤ g) (fun v x y hR ⟨l1, a1, c1, h1, h2, h3, h4⟩ => ⟨l1, a1, c1, h1, h2.below hR, h3, h4⟩) (fun vs x hR hF K hK => ?_) ?_
          · have f5 := hF 5 _ _ rfl rfl; have f6 := hF 4 _ _ rfl rfl; have f7 := hF 3 _ _ rfl rfl; have f9 := hF 1 _ _ rfl rfl; have f10 := hF 0 _ _ rfl rfl
            refine ⟨rfl, ?_⟩
            go_simp
            refine (HIH.out x base (.slice a2 (l.length + 1) c2) (l ++ [k]) X HLN.out (HIN3.out.below (grow_below hR)) HXY.out.1).mono ?_
            rintro e x1 ⟨l1, a1, c1, rfl, ho, hr, hb, hg⟩
            exact ⟨_, rfl, hK _ _ (But.trans (But.of_below (grow_below hR)) hb) ⟨l1, a1, c1, rfl, ho, hr, fun g hg2 => (hg g hg2).imp id (fun h => by have := (grow_below hR).size; omega)⟩⟩
          refine PlanW.nil (fun vs x hR hF => ?_)
          have f0 := hF 11 _ _ rfl; have f1 := hF 10 _ _ rfl; have f2 := hF 9 _ _ rfl; have f3 := hF 8 _ _ rfl; have f4 := hF 7 _ _ rfl; have f5 := hF 6 _ _ rfl; have f6 := hF 5 _ _ rfl; have f7 := hF 4 _ _ rfl; have f8 := hF 3 _ _ rfl; have f9 := hF 2 _ _ rfl; have f10 := hF 1 _ _ rfl; have f11 := hF 0 _ _ rfl
          clear hF
          simp only [f0, f1, f2, f3, f4, f5, f6, f7, f8, f9, f10]
          clear f0 f1 f2 f3 f4 f5 f6 f7 f8 f9 f10
          simp only [List.drop_succ_cons, List.drop_zero]
          obtain ⟨l1, a1, c1, e11, ho1, hr1, hg1⟩ := f11
          rw [e11] at ho1 hg1
          simp only [e11]
          have hin1 := HIN3.out.nxt ho1 hr1 hR
          have hlen1 := hr1.len HIN3.out.nd
          have HL2 : Hid (m.L.length + 1 - l1.length ≤ n) := by
            have := HLN.out
            show _ ≤ n
            omega
          have HC2 := hid (HIH.out x base (.slice a1 l1.length c1) l1 Y HL2.out hin1 HXY.out.2)
          have HR4 := hid (⟨hr1, hR, hg1⟩ : _ ∧ _ ∧ _)
          clear hin1 hlen1 hr1 hR hg1 ho1 HC e11
          go_wp2_with fail
          refine HC2.out.mono ?_
          rintro e w5 ⟨l4, a4, c4, rfl, ho4, hr4, hb4, hg4⟩
          have HF := hid (⟨l4, a4, c4, rfl, ho4, RchP.two HE.out HR4.out.1 hr4, but_trans (but_trans HBUT3.out HR4.out.2.1 HNEW.out) hb4 (own_trans HNEW.out HR4.out.2.2 HBUT3.out.size), own_trans (own_trans HNEW.out HR4.out.2.2 HBUT3.out.size) hg4 (Nat.le_trans HBUT3.out.size HR4.out.2.1.size)⟩ : RcPost m i k base (.slice va l.length vc) l w (.returned (.slice a4 l4.length c4)) w5)
          clear ho4 hr4 hb4 hg4
          go_wp2_with fail
          go_ret
          exact HF.out
        · dsimp only at h3 hx
          subst h3
          obtain ⟨X, rfl⟩ : ∃ X : Nat, x = X := ⟨x.toNat, by omega⟩
          have hX : X < m.L.length := by omega
          have he : m.eps i k = [X] := by unfold Sim.eps; rw [HII.out]; simp
          have HE := hid he
          have HCALL := hid (HIH.out w3 base (.slice a2 (l.length + 1) c2) (l ++ [k]) X HLN.out HIN3.out hX)
          clear he HEND hX hx
          go_wp2_with fail
          refine HCALL.out.mono ?_
          rintro e w5 ⟨l4, a4, c4, rfl, ho4, hr4, hb4, hg4⟩
          have HF := hid (⟨l4, a4, c4, rfl, ho4, RchP.one HE.out hr4, but_trans HBUT3.out hb4 HNEW.out, own_trans HNEW.out hg4 HBUT3.out.size⟩ : RcPost m i k base (.slice va l.length vc) l w (.returned (.slice a4 l4.length c4)) w5)
          clear ho4 hr4 hb4 hg4
          go_wp2_with fail
          go_ret
          exact HF.out
        · dsimp only at h6
          subst h6
          have he : m.eps i k = [] := by unfold Sim.eps; rw [HII.out]; simp
          have HE := hid (HEND.out he)
          clear he HEND
          go_wp2_with fail
          go_ret
          exact HE.out
theorem RchP.all {m : Sim} {i k : Nat} {l : List Nat} (h : RchP m i k [] l) : ∀ x, x ∈ l ↔ m.Reach i (· = k) x := fun x =>
  ⟨fun hx => (h.src x hx).resolve_left (by simp), fun hx => Sim.Reach.least (V := fun x => x ∈ l) (fun y hy => by subst hy; exact h.self) (fun y hy z hz => h.nxt y hy (by simp) z hz) hx⟩
end Go.Proofs.YthnpbopnpdlmnaaDoor
