/- Reback's reference: what follows marks a group. -/
import Derived.Test.YtnnocekencaadaaG20
namespace Go.Proofs.Ytnnocekencaadaa
open Go.RowKit
attribute [local go_sem] gives givesUpon
variable {C : RCtx}

set_option maxRecDepth 100000 in
set_option maxHeartbeats 8000000 in
theorem rnext_mark (n : Nat) (g0 i k : Nat) (K : Kont) (HN : RNextC C n K) : RNextC C n (.mark g0 i k K) := by
  intro w sp sa sc q h
  have hk := h.k
  have hkok := h.kok
  have hfew := h.st.few
  have hN := h.ok.1
  cases hk with
  | @mark b p sl cv av _ _ q' _ hr hg hk =>
    rw [Kont.ok] at hkok
    obtain ⟨k1, k2, k3, k4, k5⟩ := hkok
    obtain ⟨g, hge, hgl⟩ : ∃ g : Nat, p.gr - 1 = (g : Int) ∧ g < sp.length := ⟨(p.gr - 1).toNat, by omega, by omega⟩
    have hgi : (g : Int) < (sp.length : Int) := by omega
    have hg0 : 1 ≤ p.gr ∧ p.gr ≤ 9 := by omega
    have hs0 : sp ≠ [] := by rintro rfl; simp at hgl
    have hpos : 0 < sp.length := List.length_pos_iff.2 hs0
    have hl9 : sp.length ≤ 9 := by omega
    have hge2 : p.gr.toNat - 1 = g := by omega
    have hwg : IntKind.i64.wrap (g : Int) = (g : Int) := by rw [IntKind.wrap_i64]; omega
    have HP := hid h
    have HK := hid hk
    have HK5 := hid k5
    have HNN := hid HN
    have HR := hid hr
    have HGE := hid hge2
    have hspan := h.span
    rcases hspan with ⟨h0, -⟩ | ⟨-, b1, c1', more, e, hb2, hrow⟩
    · exact absurd h0 hs0
    injection e with e1 _ e2
    subst e1; subst e2
    have HROW0 := hid hrow
    obtain ⟨i0, hi, hz0, hz1, hz2⟩ := info_parts info_span
    have q0 := hr.c15
    clear h hk HN k5 hr hN hrow hge2
    go_enter Try.func54, Try.ntmps54
    go_wp2_with (at_builtin; refine wpList_append_row rfl _ _ 33 rfl w.heap.size 44 i0 (.agg #[.int .i64 0, .int .i64 0]) 2 16 Try.underlying33 hi hz0 hz1 hz2 rfl (by decide) _ 0 [] rfl (World.ownsRow_nil _ _ _ _) ⟨b1, 0, none⟩ sp.length sc (spc sp) rfl (spc_length sp) ?c1 ?c2 ?c3 ?c4 (by simp) hpos ?_)
    case c1 =>
      intro j u hj
      rw [HROW0.out.cell j]
      exact List.getElem?_append_left (List.getElem?_eq_some_iff.1 hj).1 ▸ hj
    case c2 => exact spc_one sp
    case c3 => unfold maxLen; omega
    case c4 => omega
    intro a2 c2 w3 hown hgrow hnw
    have HB3 : Hid (Below w.heap.size w w3) := (Below.refl w.heap.size w).grown hgrow (Nat.le_refl _) (fun g hg => by simp [Value.ownBlock] at hg)
    rcases SpB.own hown (by simp) hs0 with ⟨h0, -⟩ | ⟨-, b2, c2', more2, e, hb3, hrow⟩
    · exact absurd h0 hs0
    injection e with e1 _ e2
    subst e1; clear e2
    have hne : w.heap.size ≤ b2 := hb3
    have HR3 := hid (HR.out.below HB3.out HR.out.lt)
    have HROW := hid hrow
    have HC := hid (fun (x : World) (hx : Grow w3.drew x) => (HR3.out.grow hx).c15)
    have hb2lt := hrow.lt
    clear hown hgrow hnw q0 hrow
    have q0 := HR3.out.c15
    go_wp2_with fail
    refine wp_region_inv 17 (Grow) (by kernel_rfl) (by kernel_rfl) (Grow.refl) (fun _ _ _ => Grow.trans) ?_
    simp only [fill, dstOf, Act.put, List.take_succ_cons, List.take_zero, List.getElem?_toArray, List.getElem?_cons_zero, List.getElem?_cons_succ, Option.bind_some, List.setIfInBounds_toArray, List.set_cons_zero, List.set_cons_succ]
    refine Plan.det 1 rfl (Grow.refl) ?_
    apply Exists.intro
    refine ⟨fun vs x hR hF K hK => ?_, ?_⟩
    · clear hF
      go_simp
      exact hK _ _ (Grow.refl _) rfl
    refine Plan.det 2 rfl (Grow.refl) ?_
    apply Exists.intro
    refine ⟨fun vs x hR hF K hK => ?_, ?_⟩
    · clear hF
      go_simp
      exact hK _ _ (Grow.refl _) rfl
    refine Plan.det 3 rfl (Grow.refl) ?_
    apply Exists.intro
    refine ⟨fun vs x hR hF K hK => ?_, ?_⟩
    · have f1 := hF 0 _ _ rfl rfl; clear hF
      go_simp
      exact hK _ _ (Grow.refl _) rfl
    refine Plan.det 4 rfl (Grow.refl) ?_
    apply Exists.intro
    refine ⟨fun vs x hR hF K hK => ?_, ?_⟩
    · have f2 := hF 0 _ _ rfl rfl; clear hF
      go_simp
      exact hK _ _ (Grow.refl _) rfl
    refine Plan.det 5 rfl (Grow.refl) ?_
    apply Exists.intro
    refine ⟨fun vs x hR hF K hK => ?_, ?_⟩
    · have f3 := hF 0 _ _ rfl rfl; clear hF
      go_simp
      exact hK _ _ (Grow.refl _) rfl
    refine Plan.det 6 rfl (Grow.refl) ?_
    apply Exists.intro
    refine ⟨fun vs x hR hF K hK => ?_, ?_⟩
    · have f4 := hF 0 _ _ rfl rfl; have hc := HC.out x hR; clear hF
      go_simp
      exact hK _ _ (Grow.refl _) rfl
    refine Plan.det 7 rfl (Grow.refl) ?_
    apply Exists.intro
    refine ⟨fun vs x hR hF K hK => ?_, ?_⟩
    · have f5 := hF 0 _ _ rfl rfl; clear hF
      go_simp
      exact hK _ _ (Grow.refl _) rfl
    refine Plan.det 8 rfl (Grow.refl) ?_
    apply Exists.intro
    refine ⟨fun vs x hR hF K hK => ?_, ?_⟩
    · clear hF
      go_simp
      exact hK _ _ (Grow.refl _) rfl
    refine Plan.det 9 rfl (Grow.refl) ?_
    apply Exists.intro
    refine ⟨fun vs x hR hF K hK => ?_, ?_⟩
    · have f7 := hF 0 _ _ rfl rfl; clear hF
      go_simp
      exact hK _ _ (Grow.refl _) rfl
    refine Plan.det 10 rfl (Grow.refl) ?_
    apply Exists.intro
    refine ⟨fun vs x hR hF K hK => ?_, ?_⟩
    · have f8 := hF 0 _ _ rfl rfl; clear hF
      go_simp
      exact hK _ _ (Grow.refl _) rfl
    refine Plan.det 11 rfl (Grow.refl) ?_
    apply Exists.intro
    refine ⟨fun vs x hR hF K hK => ?_, ?_⟩
    · have f9 := hF 0 _ _ rfl rfl; have hc := HC.out x hR; clear hF
      go_simp
      exact hK _ _ (Grow.refl _) rfl
    refine Plan.det 12 rfl (Grow.refl) ?_
    apply Exists.intro
    refine ⟨fun vs x hR hF K hK => ?_, ?_⟩
    · clear hF
      go_simp
      exact hK _ _ (Grow.refl _) rfl
    refine Plan.det 13 rfl (Grow.refl) ?_
    apply Exists.intro
    refine ⟨fun vs x hR hF K hK => ?_, ?_⟩
    · have f11 := hF 0 _ _ rfl rfl; clear hF
      go_simp
      exact hK _ _ (Grow.refl _) rfl
    refine Plan.det 14 rfl (Grow.refl) ?_
    apply Exists.intro
    refine ⟨fun vs x hR hF K hK => ?_, ?_⟩
    · have f12 := hF 0 _ _ rfl rfl; clear hF
      go_simp
      exact hK _ _ (Grow.refl _) rfl
    refine Plan.det 15 rfl (Grow.refl) ?_
    apply Exists.intro
    refine ⟨fun vs x hR hF K hK => ?_, ?_⟩
    · have f13 := hF 0 _ _ rfl rfl; have hc := HC.out x hR; clear hF
      go_simp
      exact hK _ _ (Grow.refl _) rfl
    refine Plan.det 16 rfl (Grow.refl) ?_
    apply Exists.intro
    refine ⟨fun vs x hR hF K hK => ?_, ?_⟩
    · have f10 := hF 4 _ _ rfl rfl; have f14 := hF 0 _ _ rfl rfl; clear hF
      go_simp
      exact hK _ _ (Grow.refl _) rfl
    refine Plan.det 17 rfl (Grow.refl) ?_
    apply Exists.intro
    refine ⟨fun vs x hR hF K hK => ?_, ?_⟩
    · have f0 := hF 15 _ _ rfl rfl; have f1 := hF 14 _ _ rfl rfl; have f2 := hF 13 _ _ rfl rfl; have f3 := hF 12 _ _ rfl rfl; have f4 := hF 11 _ _ rfl rfl; have f5 := hF 10 _ _ rfl rfl; have f6 := hF 9 _ _ rfl rfl; have f7 := hF 8 _ _ rfl rfl; have f8 := hF 7 _ _ rfl rfl; have f9 := hF 6 _ _ rfl rfl; have f10 := hF 5 _ _ rfl rfl; have f11 := hF 4 _ _ rfl rfl; have f12 := hF 3 _ _ rfl rfl; have f13 := hF 2 _ _ rfl rfl; have f14 := hF 1 _ _ rfl rfl; have f15 := hF 0 _ _ rfl rfl; clear hF
      go_simp
      exact hK _ _ (Grow.refl _) rfl
    refine Plan.nil (fun vs x hR hF => ?_)
    have f0 := hF 16 _ _ rfl; have f1 := hF 15 _ _ rfl; have f2 := hF 14 _ _ rfl; have f3 := hF 13 _ _ rfl; have f4 := hF 12 _ _ rfl; have f5 := hF 11 _ _ rfl; have f6 := hF 10 _ _ rfl; have f7 := hF 9 _ _ rfl; have f8 := hF 8 _ _ rfl; have f9 := hF 7 _ _ rfl; have f10 := hF 6 _ _ rfl; have f11 := hF 5 _ _ rfl; have f12 := hF 4 _ _ rfl; have f13 := hF 3 _ _ rfl; have f14 := hF 2 _ _ rfl; have f15 := hF 1 _ _ rfl; have f16 := hF 0 _ _ rfl
    clear hF
    simp only [f0, f1, f2, f3, f4, f5, f6, f7, f8, f9, f10, f11, f12, f13, f14, f15, f16]
    clear f0 f1 f2 f3 f4 f5 f6 f7 f8 f9 f10 f11 f12 f13 f14 f15 f16
    simp only [List.drop_succ_cons, List.drop_zero]
    have HBX := hid (grow_below hR)
    have hrow := HROW.out.below HBX.out HROW.out.lt
    have HRX := hid hrow
    have HR4 := hid (HR3.out.below HBX.out HR3.out.lt)
    have q1 := HR4.out.c15
    have hsl := spc_length sp
    have hx := spc_get sp g sp[g] (by simp [hgl])
    have s0 := hrow.cell (g * 2)
    have s1 := hrow.cell (g * 2 + 1)
    rw [List.getElem?_append_left (by omega), show g * 2 = 2 * g by omega, hx.1, show 2 * g = g * 2 by omega] at s0
    rw [List.getElem?_append_left (by omega), show g * 2 + 1 = 2 * g + 1 by omega, hx.2, show 2 * g + 1 = g * 2 + 1 by omega] at s1
    have f0 := hrow.free (g * 2)
    have f1 := hrow.free (g * 2 + 1)
    have hbl : b < w.heap.size := HR.out.lt
    clear hx hrow hsl HC hR q0
    generalize sp[g] = x0 at *
    go_wp2_with fail
    have hbx : Below w.heap.size w ((x.setCell ⟨b2, g * 2, none⟩ (.int .i64 i)).setCell ⟨b2, g * 2 + 1, none⟩ (.int .i64 k)) := ((HB3.out.trans (HBX.out.mono HB3.out.size)).setCell (p := ⟨b2, g * 2, none⟩) hne _).setCell (p := ⟨b2, g * 2 + 1, none⟩) hne _
    have HBB := hid hbx
    have hpre : RPre C n (C.B - n) (sp.set (p.gr.toNat - 1) ((i : Int), (k : Int))) K (.slice (some ⟨b2, 0, none⟩) (sp.set (p.gr.toNat - 1) ((i : Int), (k : Int))).length c2) (.pointer q') ((x.setCell ⟨b2, g * 2, none⟩ (.int .i64 i)).setCell ⟨b2, g * 2 + 1, none⟩ (.int .i64 k)) := by
      refine ⟨HP.out.st.later hbx, .inr ⟨?_, b2, c2, more2, rfl, HP.out.st.new hne, ?_⟩, HP.out.ok.set _ _ _ k3 k4, HK.out.later HP.out.st hbx, HK5.out⟩
      · intro e
        exact hs0 (by have := congrArg List.length e; rw [List.length_set] at this; exact List.eq_nil_of_length_eq_zero this)
      · rw [HGE.out]
        exact HRX.out.span hgl ((i : Int), (k : Int))
    have HCL := HNN.out _ _ _ _ _ hpre
    simp only [List.length_set] at HCL
    refine HCL.mono ?_
    clear HCL hpre
    rintro e w' hg'
    obtain ⟨a9, l9, c9, fo, rfl, HG⟩ := hg'.on (But.of_below HBB.out) (fun o m he => Ev.nextMark (s := C.str) (lines := C.lines) he)
    clear hg' s0 s1 f0 f1 q1 hbx
    go_wp2_with fail
    go_ret2
    exact HG.out
end Go.Proofs.Ytnnocekencaadaa
