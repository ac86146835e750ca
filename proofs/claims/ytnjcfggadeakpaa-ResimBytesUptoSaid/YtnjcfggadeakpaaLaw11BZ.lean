/- The law ResimBytes: its walk answers true. -/
import Derived.Test.YtnjcfggadeakpaaG29
import Derived.Test.YtnjcfggadeakpaaG32
namespace Go.Proofs.Ytnjcfggadeakpaa
open Go.RowKit
attribute [local go_sem] gives givesUpon

theorem oneSet_right (s : Cs) : rightAll (oneSet s) := by
  refine ⟨⟨by show 1 ≤ 2; omega, by show 2 ≤ 4096; omega⟩, fun k h => ?_⟩
  have h2 : k < 2 := h
  have hk : k = 0 ∨ k = 1 := by omega
  rcases hk with rfl | rfl
  · exact .inl ⟨.inl rfl, by show 0 + 1 < 2; omega⟩
  · exact .inr (.inr (.inr rfl))
theorem oneSet_wf {s : Cs} (h : s.wf) : ∀ k (h : k < (oneSet s).length), (oneSet s)[k].set.wf := by
  intro k hl
  have h2 : k < 2 := hl
  have hk : k = 0 ∨ k = 1 := by omega
  rcases hk with rfl | rfl
  · exact h
  · exact Cs.none_wf
-- def CI := [.int .i64 1, .int .u64 s.a, .int .u64 s.b, .int .u64 s.c, .int .u64 s.d, .int .i64 0, .int .i64 0, .int .i64 6, .int .u64 0, .int .u64 0, .int .u64 0, .int .u64 0, .int .i64 0, .int .i64 0]
-- def W2 := ((w.alloc (.cells #[.int .u64 s.a, .int .u64 s.b, .int .u64 s.c, .int .u64 s.d] 41)).alloc (.cells #[.int .i64 1, .int .u64 s.a, .int .u64 s.b, .int .u64 s.c, .int .u64 s.d, .int .i64 0, .int .i64 0, .int .i64 6, .int .u64 0, .int .u64 0, .int .u64 0, .int .u64 0, .int .i64 0, .int .i64 0] 43))
-- def W3 := (((w.alloc (.cells #[.int .u64 s.a, .int .u64 s.b, .int .u64 s.c, .int .u64 s.d] 41)).alloc (.cells #[.int .i64 1, .int .u64 s.a, .int .u64 s.b, .int .u64 s.c, .int .u64 s.d, .int .i64 0, .int .i64 0, .int .i64 6, .int .u64 0, .int .u64 0, .int .u64 0, .int .u64 0, .int .i64 0, .int .i64 0] 43)).alloc (.cells #[.slice (some ⟨w.heap.size + 1, 0, none⟩) 2 2, .bool false] 24))
theorem oneSet_at {w : World} {B : Nat} {s : Cs} (h : Row w B [.int .i64 1, .int .u64 s.a, .int .u64 s.b, .int .u64 s.c, .int .u64 s.d, .int .i64 0, .int .i64 0, .int .i64 6, .int .u64 0, .int .u64 0, .int .u64 0, .int .u64 0, .int .i64 0, .int .i64 0] 43) : InsAt w (some ⟨B, 0, none⟩) (oneSet s) := by
  have h' : Row w B ((⟨1, s, 0, 0⟩ : Inst).cells ++ (Inst.of 6).cells) 43 := h
  refine .inr ⟨B, 0, rfl, h.lt, fun i hi => ?_⟩
  have h2 : i < 2 := hi
  have hk : i = 0 ∨ i = 1 := by omega
  rcases hk with rfl | rfl
  · intro j v hj
    have hl : j < ((⟨1, s, 0, 0⟩ : Inst).cells).length := (List.getElem?_eq_some_iff.1 hj).1
    rw [show 0 + 0 * 7 + j = j by omega, h'.cell, List.getElem?_append_left hl]
    exact hj
  · intro j v hj
    rw [show 0 + 1 * 7 + j = 7 + j by omega, h'.cell, List.getElem?_append_right (by show 7 ≤ 7 + j; omega)]
    rw [show 7 + j - ((⟨1, s, 0, 0⟩ : Inst).cells).length = j from by show 7 + j - 7 = j; omega]
    exact hj
/-- What the law wants. -/
def wants (s : Cs) (str : ByteArray) (at_ : Int) : Bool := decide (0 ≤ at_) && (decide (at_ < str.size) && s.has (str[at_.toNat]!).toNat)
set_option maxRecDepth 100000 in
set_option maxHeartbeats 8000000 in
theorem LawBytes_any (w : World) (s : Cs) (str : ByteArray) (at_ : Int) (hs : s.wf) (hl : str.size ≤ 1048576) (hI : at_ ≤ 9223372036854775807) :
    Calls Try.prog 7 #[.agg #[.int .u64 s.a, .int .u64 s.b, .int .u64 s.c, .int .u64 s.d], .string str, .int .i64 at_] w fun e w' => e = .returned (.bool true) ∧ Below w.heap.size w w' := by
  have HS := hid hs
  have HCX : Hid (Row (((w.alloc (.cells #[.int .u64 s.a, .int .u64 s.b, .int .u64 s.c, .int .u64 s.d] 41)).alloc (.cells #[.int .i64 1, .int .u64 s.a, .int .u64 s.b, .int .u64 s.c, .int .u64 s.d, .int .i64 0, .int .i64 0, .int .i64 6, .int .u64 0, .int .u64 0, .int .u64 0, .int .u64 0, .int .i64 0, .int .i64 0] 43)).alloc (.cells #[.slice (some ⟨w.heap.size + 1, 0, none⟩) 2 2, .bool false] 24)) w.heap.size [.int .u64 s.a, .int .u64 s.b, .int .u64 s.c, .int .u64 s.d] 41) := ((Row.at w [.int .u64 s.a, .int .u64 s.b, .int .u64 s.c, .int .u64 s.d] _).alloc _).alloc _
  have HIX : Hid (Row (((w.alloc (.cells #[.int .u64 s.a, .int .u64 s.b, .int .u64 s.c, .int .u64 s.d] 41)).alloc (.cells #[.int .i64 1, .int .u64 s.a, .int .u64 s.b, .int .u64 s.c, .int .u64 s.d, .int .i64 0, .int .i64 0, .int .i64 6, .int .u64 0, .int .u64 0, .int .u64 0, .int .u64 0, .int .i64 0, .int .i64 0] 43)).alloc (.cells #[.slice (some ⟨w.heap.size + 1, 0, none⟩) 2 2, .bool false] 24)) (w.heap.size + 1) [.int .i64 1, .int .u64 s.a, .int .u64 s.b, .int .u64 s.c, .int .u64 s.d, .int .i64 0, .int .i64 0, .int .i64 6, .int .u64 0, .int .u64 0, .int .u64 0, .int .u64 0, .int .i64 0, .int .i64 0] 43) := (Row.new (cs := [.int .i64 1, .int .u64 s.a, .int .u64 s.b, .int .u64 s.c, .int .u64 s.d, .int .i64 0, .int .i64 0, .int .i64 6, .int .u64 0, .int .u64 0, .int .u64 0, .int .u64 0, .int .i64 0, .int .i64 0]) (by simp)).alloc _
  have HPX : Hid (Row (((w.alloc (.cells #[.int .u64 s.a, .int .u64 s.b, .int .u64 s.c, .int .u64 s.d] 41)).alloc (.cells #[.int .i64 1, .int .u64 s.a, .int .u64 s.b, .int .u64 s.c, .int .u64 s.d, .int .i64 0, .int .i64 0, .int .i64 6, .int .u64 0, .int .u64 0, .int .u64 0, .int .u64 0, .int .i64 0, .int .i64 0] 43)).alloc (.cells #[.slice (some ⟨w.heap.size + 1, 0, none⟩) 2 2, .bool false] 24)) (w.heap.size + 1 + 1) [.slice (some ⟨w.heap.size + 1, 0, none⟩) 2 2, .bool false] 24) := Row.new (cs := [.slice (some ⟨w.heap.size + 1, 0, none⟩) 2 2, .bool false]) (by simp)
  have HB0 : Hid (Below w.heap.size w (((w.alloc (.cells #[.int .u64 s.a, .int .u64 s.b, .int .u64 s.c, .int .u64 s.d] 41)).alloc (.cells #[.int .i64 1, .int .u64 s.a, .int .u64 s.b, .int .u64 s.c, .int .u64 s.d, .int .i64 0, .int .i64 0, .int .i64 6, .int .u64 0, .int .u64 0, .int .u64 0, .int .u64 0, .int .i64 0, .int .i64 0] 43)).alloc (.cells #[.slice (some ⟨w.heap.size + 1, 0, none⟩) 2 2, .bool false] 24))) := ((Grow.alloc w _).trans (Grow.alloc _ _)).trans (Grow.alloc _ _)
  have q0 : (w.alloc (.cells #[.int .u64 s.a, .int .u64 s.b, .int .u64 s.c, .int .u64 s.d] 41)).cell? ⟨w.heap.size, 0, none⟩ = some (.int .u64 s.a) ∧ (w.alloc (.cells #[.int .u64 s.a, .int .u64 s.b, .int .u64 s.c, .int .u64 s.d] 41)).cell? ⟨w.heap.size, 1, none⟩ = some (.int .u64 s.b) ∧ (w.alloc (.cells #[.int .u64 s.a, .int .u64 s.b, .int .u64 s.c, .int .u64 s.d] 41)).cell? ⟨w.heap.size, 2, none⟩ = some (.int .u64 s.c) ∧ (w.alloc (.cells #[.int .u64 s.a, .int .u64 s.b, .int .u64 s.c, .int .u64 s.d] 41)).cell? ⟨w.heap.size, 3, none⟩ = some (.int .u64 s.d) := by
    have h := Row.at w [.int .u64 s.a, .int .u64 s.b, .int .u64 s.c, .int .u64 s.d] 41
    exact ⟨h.cell 0, h.cell 1, h.cell 2, h.cell 3⟩
  clear hs
  go_enter Try.func7, Try.ntmps7
  go_upto_region 2 with fail
  clear q0
  have HIA := hid (oneSet_at HIX.out)
  generalize hw3 : (((w.alloc (.cells #[.int .u64 s.a, .int .u64 s.b, .int .u64 s.c, .int .u64 s.d] 41)).alloc (.cells #[.int .i64 1, .int .u64 s.a, .int .u64 s.b, .int .u64 s.c, .int .u64 s.d, .int .i64 0, .int .i64 0, .int .i64 6, .int .u64 0, .int .u64 0, .int .u64 0, .int .u64 0, .int .i64 0, .int .i64 0] 43)).alloc (.cells #[.slice (some ⟨w.heap.size + 1, 0, none⟩) 2 2, .bool false] 24)) = w3 at *
  clear hw3
  generalize w.heap.size + 1 + 1 = b2 at *
  generalize w.heap.size + 1 = b1 at *
  generalize hb0 : w.heap.size = b0 at HCX
  have q3 : w3.cell? ⟨b2, 0, none⟩ = some (.slice (some ⟨b1, 0, none⟩) 2 2) ∧ w3.cell? ⟨b2, 1, none⟩ = some (.bool false) := ⟨HPX.out.cell 0, HPX.out.cell 1⟩
  have HVR : Hid (Calls Try.prog 16 #[.agg #[.slice (some ⟨b1, 0, none⟩) 2 2, .bool false]] w3 (VPost (oneSet s) w3)) := ValidR_any w3 (some ⟨b1, 0, none⟩) 2 (oneSet s) false HIA.out (by show 2 ≤ _; omega)
  rcases Nat.lt_or_ge 24 str.size with h24 | h24
  · have d24 : decide ((24 : Int) < (str.size : Int)) = true := by simp; omega
    go_wp2_with fail
    refine (awake11_any _).mono ?_
    rintro e w5 ⟨rfl, hb5⟩
    have HB5 := hid (HB0.out.trans (hb5.mono HB0.out.size))
    clear hb5
    go_wp2_with fail
    all_goals (try go_ret)
    all_goals exact ⟨rfl, HB5.out⟩
  have d24 : decide ((24 : Int) < (str.size : Int)) = false := by simp; omega
  go_wp2_with fail
  refine HVR.out.mono ?_
  rintro e w4 ⟨b, rfl, hb, hb4⟩
  obtain rfl : b = true := hb.2 (oneSet_right s)
  have HPX4 := hid (HPX.out.below hb4 HPX.out.lt)
  have HCX4 := hid (HCX.out.below hb4 HCX.out.lt)
  have HI4 := hid (HIA.out.below hb4 (Nat.le_refl _))
  have HB4 := hid (HB0.out.trans (hb4.mono HB0.out.size))
  have q4 : w4.cell? ⟨b2, 0, none⟩ = some (.slice (some ⟨b1, 0, none⟩) 2 2) ∧ w4.cell? ⟨b2, 1, none⟩ = some (.bool false) := ⟨HPX4.out.cell 0, HPX4.out.cell 1⟩
  clear hb4 hb HVR q3 d24
  have HLG : Hid (Calls Try.prog 15 #[.agg #[.slice (some ⟨b1, 0, none⟩) 2 2, .bool false], .string str, .int .i64 at_] w4 (LgPost ⟨oneSet s, false, str.data.toList⟩ w4 at_)) := Longest_any w4 ⟨oneSet s, false, str.data.toList⟩ (some ⟨b1, 0, none⟩) 2 str at_ ⟨HI4.out, oneSet_wf HS.out, rfl, by omega, by show 2 ≤ _; omega⟩
  go_wp2_with fail
  refine HLG.out.mono ?_
  rintro e w5 ⟨hb5, hlg⟩
  have HCX5 := hid (HCX4.out.below hb5 HCX4.out.lt)
  have HB5 := hid (HB4.out.trans (hb5.mono HB4.out.size))
  have q5 : w5.cell? ⟨b0, 0, none⟩ = some (.int .u64 s.a) ∧ w5.cell? ⟨b0, 1, none⟩ = some (.int .u64 s.b) ∧ w5.cell? ⟨b0, 2, none⟩ = some (.int .u64 s.c) ∧ w5.cell? ⟨b0, 3, none⟩ = some (.int .u64 s.d) := ⟨HCX5.out.cell 0, HCX5.out.cell 1, HCX5.out.cell 2, HCX5.out.cell 3⟩
  have hsz : (str.data.toList.length : Int) = (str.size : Int) := by rw [Array.length_toList]; rfl
  have hsz' : str.data.toList.length = str.size := by rw [Array.length_toList]; rfl
  have hval : e = .returned (.tuple #[.int .i64 (if wants s str at_ = true then at_ + 1 else 0), .bool (wants s str at_)]) := by
    rcases hlg with ⟨h1, h2⟩ | ⟨h1, f, b, h2, h3, h4, h5⟩
    · have hn : wants s str at_ = false := by
        unfold wants
        rcases h1 with h1 | h1 | h1
        · exact absurd (oneSet_right s) h1
        · have : decide (0 ≤ at_) = false := by simp; omega
          rw [this]; rfl
        · have h9 : (str.size : Int) < at_ := by rw [← hsz]; exact h1
          have : decide (at_ < (str.size : Int)) = false := by simp; omega
          rw [this]; simp
      rw [h2, hn]
      rfl
    · subst h2
      have hb := one_long (m := ⟨oneSet s, false, str.data.toList⟩) (a := s) rfl h3 h4
      subst hb
      have h3' : f ≤ str.size := by rw [← hsz']; exact h3
      rw [h5]
      by_cases hf : f < str.size
      · have hby : Sim.byte ⟨oneSet s, false, str.data.toList⟩ f = (str[f]!).toNat := by
          rw [byte_eq (m := ⟨oneSet s, false, str.data.toList⟩) rfl hf]
          congr 1
          rw [getElem!_pos str f hf]
        have hw : wants s str f = s.has (str[f]!).toNat := by
          unfold wants
          have e1 : decide (0 ≤ (f : Int)) = true := by simp
          have e2 : decide ((f : Int) < (str.size : Int)) = true := by simp; omega
          rw [e1, e2]
          rfl
        rw [hw, hby]
        cases hh : s.has (str[f]!).toNat with
        | false => simp
        | true =>
          have : f < (Sim.s ⟨oneSet s, false, str.data.toList⟩).length := by show f < str.data.toList.length; omega
          rw [if_pos ⟨this, rfl⟩]
          simp
      · have hw : wants s str f = false := by
          unfold wants
          have e2 : decide ((f : Int) < (str.size : Int)) = false := by simp; omega
          rw [e2]
          simp
        rw [hw, if_neg (fun h => hf (by have := h.1; have h8 : f < str.data.toList.length := this; omega))]
        rfl
  subst hval
  clear hb5 hlg q4 HLG
  clear hsz hsz'
  have HC := hid (fun (x : World) (hx : Grow w5.drew x) => (show x.cell? ⟨b0, 0, none⟩ = some (.int .u64 s.a) ∧ x.cell? ⟨b0, 1, none⟩ = some (.int .u64 s.b) ∧ x.cell? ⟨b0, 2, none⟩ = some (.int .u64 s.c) ∧ x.cell? ⟨b0, 3, none⟩ = some (.int .u64 s.d) from by
    have h := HCX5.out.below (show Below w5.heap.size w5 x from ⟨hx.os, hx.tape, hx.output, hx.size, hx.block⟩) HCX5.out.lt
    exact ⟨h.cell 0, h.cell 1, h.cell 2, h.cell 3⟩))
  rcases Int.lt_or_le at_ 0 with h0 | h0
  · have d0 : decide (0 ≤ at_) = false := by simp; omega
    have hw : wants s str at_ = false := by unfold wants; rw [d0]; rfl
    rw [hw]
    go_upto_region 5 with fail
    clear q5
    refine wp_region_inv 16 (Grow) (by kernel_rfl) (by kernel_rfl) (Grow.refl) (fun _ _ _ => Grow.trans) ?_
    simp only [fill, dstOf, Act.put, List.take_succ_cons, List.take_zero, List.getElem?_toArray, List.getElem?_cons_zero, List.getElem?_cons_succ, Option.bind_some, List.setIfInBounds_toArray, List.set_cons_zero, List.set_cons_succ]
    refine Plan.det 1 rfl (Grow.refl) ?_
    apply Exists.intro
    refine ⟨fun vs x hR hF K hK => ?_, ?_⟩
    · clear hF
      go_simp
      exact hK _ _ (Grow.refl _) rfl
    refine Plan.det 2 rfl (Grow.refl) ?_
    apply Exists.intro
    refine ⟨fun vs x hR hF K hK => ?_, ?_⟩
    · have f0 := hF 0 _ _ rfl rfl; clear hF
      go_simp
      exact hK _ _ (Grow.refl _) rfl
    refine Plan.det 3 rfl (Grow.refl) ?_
    apply Exists.intro
    refine ⟨fun vs x hR hF K hK => ?_, ?_⟩
    · have f1 := hF 0 _ _ rfl rfl; clear hF
      go_simp
      exact hK _ _ (Grow.refl _) rfl
    refine Plan.det 4 rfl (Grow.refl) ?_
    apply Exists.intro
    refine ⟨fun vs x hR hF K hK => ?_, ?_⟩
    · have f2 := hF 0 _ _ rfl rfl; clear hF
      go_simp
      exact hK _ _ (Grow.refl _) rfl
    refine Plan.det 5 rfl (Grow.refl) ?_
    apply Exists.intro
    refine ⟨fun vs x hR hF K hK => ?_, ?_⟩
    · have f2 := hF 1 _ _ rfl rfl; clear hF
      go_simp
      exact hK _ _ (Grow.refl _) rfl
    refine Plan.det 6 rfl (Grow.refl) ?_
    apply Exists.intro
    refine ⟨fun vs x hR hF K hK => ?_, ?_⟩
    · have f2 := hF 2 _ _ rfl rfl; have f4 := hF 0 _ _ rfl rfl; clear hF
      go_simp
      exact hK _ _ (Grow.refl _) rfl
    refine Plan.det 7 rfl (Grow.refl) ?_
    apply Exists.intro
    refine ⟨fun vs x hR hF K hK => ?_, ?_⟩
    · have f2 := hF 3 _ _ rfl rfl; have f3 := hF 2 _ _ rfl rfl; have f5 := hF 0 _ _ rfl rfl; clear hF
      go_simp
      exact hK _ _ (Grow.refl _) rfl
    refine Plan.det 8 rfl (Grow.refl) ?_
    apply Exists.intro
    refine ⟨fun vs x hR hF K hK => ?_, ?_⟩
    · have f2 := hF 4 _ _ rfl rfl; have f6 := hF 0 _ _ rfl rfl; clear hF
      go_simp
      exact hK _ _ (Grow.refl _) rfl
    refine Plan.det 9 rfl (Grow.refl) ?_
    apply Exists.intro
    refine ⟨fun vs x hR hF K hK => ?_, ?_⟩
    · have f2 := hF 5 _ _ rfl rfl; have f7 := hF 0 _ _ rfl rfl; clear hF
      go_simp
      exact hK _ _ (Grow.refl _) rfl
    refine Plan.det 10 rfl (Grow.refl) ?_
    apply Exists.intro
    refine ⟨fun vs x hR hF K hK => ?_, ?_⟩
    · have f8 := hF 0 _ _ rfl rfl; have hc := HC.out x hR; clear hF
      go_simp
      exact hK _ _ (Grow.refl _) rfl
    refine Plan.det 11 rfl (Grow.refl) ?_
    apply Exists.intro
    refine ⟨fun vs x hR hF K hK => ?_, ?_⟩
    · have f8 := hF 1 _ _ rfl rfl; clear hF
      go_simp
      exact hK _ _ (Grow.refl _) rfl
    refine Plan.det 12 rfl (Grow.refl) ?_
    apply Exists.intro
    refine ⟨fun vs x hR hF K hK => ?_, ?_⟩
    · have f8 := hF 2 _ _ rfl rfl; clear hF
      go_simp
      exact hK _ _ (Grow.refl _) rfl
    refine Plan.det 13 rfl (Grow.refl) ?_
    apply Exists.intro
    refine ⟨fun vs x hR hF K hK => ?_, ?_⟩
    · have f8 := hF 3 _ _ rfl rfl; have f10 := hF 1 _ _ rfl rfl; have f11 := hF 0 _ _ rfl rfl; clear hF
      go_simp
      exact hK _ _ (Grow.refl _) rfl
    refine Plan.det 14 rfl (Grow.refl) ?_
    apply Exists.intro
    refine ⟨fun vs x hR hF K hK => ?_, ?_⟩
    · have f8 := hF 4 _ _ rfl rfl; have f9 := hF 3 _ _ rfl rfl; have f12 := hF 0 _ _ rfl rfl; clear hF
      go_simp
      exact hK _ _ (Grow.refl _) rfl
    refine Plan.det 15 rfl (Grow.refl) ?_
    apply Exists.intro
    refine ⟨fun vs x hR hF K hK => ?_, ?_⟩
    · have f8 := hF 5 _ _ rfl rfl; have f13 := hF 0 _ _ rfl rfl; clear hF
      go_simp
      exact hK _ _ (Grow.refl _) rfl
    refine Plan.det 16 rfl (Grow.refl) ?_
    apply Exists.intro
    refine ⟨fun vs x hR hF K hK => ?_, ?_⟩
    · have f0 := hF 14 _ _ rfl rfl; have f1 := hF 13 _ _ rfl rfl; have f2 := hF 12 _ _ rfl rfl; have f3 := hF 11 _ _ rfl rfl; have f4 := hF 10 _ _ rfl rfl; have f5 := hF 9 _ _ rfl rfl; have f6 := hF 8 _ _ rfl rfl; have f7 := hF 7 _ _ rfl rfl; have f8 := hF 6 _ _ rfl rfl; have f9 := hF 5 _ _ rfl rfl; have f10 := hF 4 _ _ rfl rfl; have f11 := hF 3 _ _ rfl rfl; have f12 := hF 2 _ _ rfl rfl; have f13 := hF 1 _ _ rfl rfl; have f14 := hF 0 _ _ rfl rfl; clear hF
      go_simp
      exact hK _ _ (Grow.refl _) rfl
    refine Plan.nil (fun vs x hR hF => ?_)
    have f0 := hF 15 _ _ rfl; have f1 := hF 14 _ _ rfl; have f2 := hF 13 _ _ rfl; have f3 := hF 12 _ _ rfl; have f4 := hF 11 _ _ rfl; have f5 := hF 10 _ _ rfl; have f6 := hF 9 _ _ rfl; have f7 := hF 8 _ _ rfl; have f8 := hF 7 _ _ rfl; have f9 := hF 6 _ _ rfl; have f10 := hF 5 _ _ rfl; have f11 := hF 4 _ _ rfl; have f12 := hF 3 _ _ rfl; have f13 := hF 2 _ _ rfl; have f14 := hF 1 _ _ rfl; have f15 := hF 0 _ _ rfl
    clear hF
    simp only [f0, f1, f2, f3, f4, f5, f6, f7, f8, f9, f10, f11, f12, f13, f14, f15]
    clear f0 f1 f2 f3 f4 f5 f6 f7 f8 f9 f10 f11 f12 f13 f14 f15
    simp only [List.drop_succ_cons, List.drop_zero]
    have hbx : Below w5.heap.size w5 x := ⟨hR.os, hR.tape, hR.output, hR.size, hR.block⟩
    have HBE := hid (HB5.out.trans (hbx.mono HB5.out.size))
    clear HC hR hbx
    go_wp2_with fail
    refine (awake11_any _).mono ?_
    rintro e w8 ⟨rfl, hb8⟩
    have HB8 := hid (HBE.out.trans (hb8.mono HBE.out.size))
    clear hb8
    go_wp2_with fail
    all_goals (try go_ret)
    all_goals exact ⟨rfl, HB8.out⟩
  obtain ⟨f, rfl⟩ := Int.eq_ofNat_of_zero_le h0
  have d0 : decide (0 ≤ (f : Int)) = true := by simp
  rcases Nat.lt_or_ge f str.size with h1 | h1
  case inr =>
    have d1 : decide ((f : Int) < (str.size : Int)) = false := by simp; omega
    have d1n : ¬ f < str.size := by omega
    have d1m : decide (f < str.size) = false := by simpa using d1n
    have hw : wants s str f = false := by unfold wants; rw [d1]; simp
    rw [hw]
    go_upto_region 5 with fail
    clear q5
    refine wp_region_inv 16 (Grow) (by kernel_rfl) (by kernel_rfl) (Grow.refl) (fun _ _ _ => Grow.trans) ?_
    simp only [fill, dstOf, Act.put, List.take_succ_cons, List.take_zero, List.getElem?_toArray, List.getElem?_cons_zero, List.getElem?_cons_succ, Option.bind_some, List.setIfInBounds_toArray, List.set_cons_zero, List.set_cons_succ]
    refine Plan.det 1 rfl (Grow.refl) ?_
    apply Exists.intro
    refine ⟨fun vs x hR hF K hK => ?_, ?_⟩
    · clear hF
      go_simp
      exact hK _ _ (Grow.refl _) rfl
    refine Plan.det 2 rfl (Grow.refl) ?_
    apply Exists.intro
    refine ⟨fun vs x hR hF K hK => ?_, ?_⟩
    · have f0 := hF 0 _ _ rfl rfl; clear hF
      go_simp
      exact hK _ _ (Grow.refl _) rfl
    refine Plan.det 3 rfl (Grow.refl) ?_
    apply Exists.intro
    refine ⟨fun vs x hR hF K hK => ?_, ?_⟩
    · have f1 := hF 0 _ _ rfl rfl; clear hF
      go_simp
      exact hK _ _ (Grow.refl _) rfl
    refine Plan.det 4 rfl (Grow.refl) ?_
    apply Exists.intro
    refine ⟨fun vs x hR hF K hK => ?_, ?_⟩
    · have f2 := hF 0 _ _ rfl rfl; clear hF
      go_simp
      exact hK _ _ (Grow.refl _) rfl
    refine Plan.det 5 rfl (Grow.refl) ?_
    apply Exists.intro
    refine ⟨fun vs x hR hF K hK => ?_, ?_⟩
    · have f2 := hF 1 _ _ rfl rfl; clear hF
      go_simp
      exact hK _ _ (Grow.refl _) rfl
    refine Plan.det 6 rfl (Grow.refl) ?_
    apply Exists.intro
    refine ⟨fun vs x hR hF K hK => ?_, ?_⟩
    · have f2 := hF 2 _ _ rfl rfl; have f4 := hF 0 _ _ rfl rfl; clear hF
      go_simp
      exact hK _ _ (Grow.refl _) rfl
    refine Plan.det 7 rfl (Grow.refl) ?_
    apply Exists.intro
    refine ⟨fun vs x hR hF K hK => ?_, ?_⟩
    · have f2 := hF 3 _ _ rfl rfl; have f3 := hF 2 _ _ rfl rfl; have f5 := hF 0 _ _ rfl rfl; clear hF
      go_simp
      exact hK _ _ (Grow.refl _) rfl
    refine Plan.det 8 rfl (Grow.refl) ?_
    apply Exists.intro
    refine ⟨fun vs x hR hF K hK => ?_, ?_⟩
    · have f2 := hF 4 _ _ rfl rfl; have f6 := hF 0 _ _ rfl rfl; clear hF
      go_simp
      exact hK _ _ (Grow.refl _) rfl
    refine Plan.det 9 rfl (Grow.refl) ?_
    apply Exists.intro
    refine ⟨fun vs x hR hF K hK => ?_, ?_⟩
    · have f2 := hF 5 _ _ rfl rfl; have f7 := hF 0 _ _ rfl rfl; clear hF
      go_simp
      exact hK _ _ (Grow.refl _) rfl
    refine Plan.det 10 rfl (Grow.refl) ?_
    apply Exists.intro
    refine ⟨fun vs x hR hF K hK => ?_, ?_⟩
    · have f8 := hF 0 _ _ rfl rfl; have hc := HC.out x hR; clear hF
      go_simp
      exact hK _ _ (Grow.refl _) rfl
    refine Plan.det 11 rfl (Grow.refl) ?_
    apply Exists.intro
    refine ⟨fun vs x hR hF K hK => ?_, ?_⟩
    · have f8 := hF 1 _ _ rfl rfl; clear hF
      go_simp
      exact hK _ _ (Grow.refl _) rfl
    refine Plan.det 12 rfl (Grow.refl) ?_
    apply Exists.intro
    refine ⟨fun vs x hR hF K hK => ?_, ?_⟩
    · have f8 := hF 2 _ _ rfl rfl; clear hF
      go_simp
      exact hK _ _ (Grow.refl _) rfl
    refine Plan.det 13 rfl (Grow.refl) ?_
    apply Exists.intro
    refine ⟨fun vs x hR hF K hK => ?_, ?_⟩
    · have f8 := hF 3 _ _ rfl rfl; have f10 := hF 1 _ _ rfl rfl; have f11 := hF 0 _ _ rfl rfl; clear hF
      go_simp
      exact hK _ _ (Grow.refl _) rfl
    refine Plan.det 14 rfl (Grow.refl) ?_
    apply Exists.intro
    refine ⟨fun vs x hR hF K hK => ?_, ?_⟩
    · have f8 := hF 4 _ _ rfl rfl; have f9 := hF 3 _ _ rfl rfl; have f12 := hF 0 _ _ rfl rfl; clear hF
      go_simp
      exact hK _ _ (Grow.refl _) rfl
    refine Plan.det 15 rfl (Grow.refl) ?_
    apply Exists.intro
    refine ⟨fun vs x hR hF K hK => ?_, ?_⟩
    · have f8 := hF 5 _ _ rfl rfl; have f13 := hF 0 _ _ rfl rfl; clear hF
      go_simp
      exact hK _ _ (Grow.refl _) rfl
    refine Plan.det 16 rfl (Grow.refl) ?_
    apply Exists.intro
    refine ⟨fun vs x hR hF K hK => ?_, ?_⟩
    · have f0 := hF 14 _ _ rfl rfl; have f1 := hF 13 _ _ rfl rfl; have f2 := hF 12 _ _ rfl rfl; have f3 := hF 11 _ _ rfl rfl; have f4 := hF 10 _ _ rfl rfl; have f5 := hF 9 _ _ rfl rfl; have f6 := hF 8 _ _ rfl rfl; have f7 := hF 7 _ _ rfl rfl; have f8 := hF 6 _ _ rfl rfl; have f9 := hF 5 _ _ rfl rfl; have f10 := hF 4 _ _ rfl rfl; have f11 := hF 3 _ _ rfl rfl; have f12 := hF 2 _ _ rfl rfl; have f13 := hF 1 _ _ rfl rfl; have f14 := hF 0 _ _ rfl rfl; clear hF
      go_simp
      exact hK _ _ (Grow.refl _) rfl
    refine Plan.nil (fun vs x hR hF => ?_)
    have f0 := hF 15 _ _ rfl; have f1 := hF 14 _ _ rfl; have f2 := hF 13 _ _ rfl; have f3 := hF 12 _ _ rfl; have f4 := hF 11 _ _ rfl; have f5 := hF 10 _ _ rfl; have f6 := hF 9 _ _ rfl; have f7 := hF 8 _ _ rfl; have f8 := hF 7 _ _ rfl; have f9 := hF 6 _ _ rfl; have f10 := hF 5 _ _ rfl; have f11 := hF 4 _ _ rfl; have f12 := hF 3 _ _ rfl; have f13 := hF 2 _ _ rfl; have f14 := hF 1 _ _ rfl; have f15 := hF 0 _ _ rfl
    clear hF
    simp only [f0, f1, f2, f3, f4, f5, f6, f7, f8, f9, f10, f11, f12, f13, f14, f15]
    clear f0 f1 f2 f3 f4 f5 f6 f7 f8 f9 f10 f11 f12 f13 f14 f15
    simp only [List.drop_succ_cons, List.drop_zero]
    have hbx : Below w5.heap.size w5 x := ⟨hR.os, hR.tape, hR.output, hR.size, hR.block⟩
    have HBE := hid (HB5.out.trans (hbx.mono HB5.out.size))
    clear HC hR hbx
    go_wp2_with fail
    refine (awake11_any _).mono ?_
    rintro e w8 ⟨rfl, hb8⟩
    have HB8 := hid (HBE.out.trans (hb8.mono HBE.out.size))
    clear hb8
    go_wp2_with fail
    all_goals (try go_ret)
    all_goals exact ⟨rfl, HB8.out⟩
  have d1 : decide ((f : Int) < (str.size : Int)) = true := by simp; omega
  have hfI : (f : Int) < (str.size : Int) := by omega
  have hw : wants s str f = s.has (str[f]'h1).toNat := by
    unfold wants
    rw [d0, d1, show (f : Int).toNat = f from rfl, getElem!_pos str f h1]
    rfl
  rw [hw]
  have HH := hid (fun (x : World) => Has_any s (str[f]'h1).toNat x HS.out (UInt8.toNat_lt _))
  cases hh : s.has (str[f]'h1).toNat with
  | false =>
    rw [hh] at HH
    go_upto_region 5 with fail
    clear q5
    refine wp_region_inv 16 (Grow) (by kernel_rfl) (by kernel_rfl) (Grow.refl) (fun _ _ _ => Grow.trans) ?_
    simp only [fill, dstOf, Act.put, List.take_succ_cons, List.take_zero, List.getElem?_toArray, List.getElem?_cons_zero, List.getElem?_cons_succ, Option.bind_some, List.setIfInBounds_toArray, List.set_cons_zero, List.set_cons_succ]
    refine Plan.det 1 rfl (Grow.refl) ?_
    apply Exists.intro
    refine ⟨fun vs x hR hF K hK => ?_, ?_⟩
    · clear hF
      go_simp
      exact hK _ _ (Grow.refl _) rfl
    refine Plan.det 2 rfl (Grow.refl) ?_
    apply Exists.intro
    refine ⟨fun vs x hR hF K hK => ?_, ?_⟩
    · have f0 := hF 0 _ _ rfl rfl; clear hF
      go_simp
      exact hK _ _ (Grow.refl _) rfl
    refine Plan.det 3 rfl (Grow.refl) ?_
    apply Exists.intro
    refine ⟨fun vs x hR hF K hK => ?_, ?_⟩
    · have f1 := hF 0 _ _ rfl rfl; clear hF
      go_simp
      exact hK _ _ (Grow.refl _) rfl
    refine Plan.det 4 rfl (Grow.refl) ?_
    apply Exists.intro
    refine ⟨fun vs x hR hF K hK => ?_, ?_⟩
    · have f2 := hF 0 _ _ rfl rfl; clear hF
      go_simp
      exact hK _ _ (Grow.refl _) rfl
    refine Plan.det 5 rfl (Grow.refl) ?_
    apply Exists.intro
    refine ⟨fun vs x hR hF K hK => ?_, ?_⟩
    · have f2 := hF 1 _ _ rfl rfl; clear hF
      go_simp
      exact hK _ _ (Grow.refl _) rfl
    refine Plan.det 6 rfl (Grow.refl) ?_
    apply Exists.intro
    refine ⟨fun vs x hR hF K hK => ?_, ?_⟩
    · have f2 := hF 2 _ _ rfl rfl; have f4 := hF 0 _ _ rfl rfl; clear hF
      go_simp
      exact hK _ _ (Grow.refl _) rfl
    refine Plan.det 7 rfl (Grow.refl) ?_
    apply Exists.intro
    refine ⟨fun vs x hR hF K hK => ?_, ?_⟩
    · have f2 := hF 3 _ _ rfl rfl; have f3 := hF 2 _ _ rfl rfl; have f5 := hF 0 _ _ rfl rfl; clear hF
      go_simp
      exact hK _ _ (Grow.refl _) rfl
    refine Plan.det 8 rfl (Grow.refl) ?_
    apply Exists.intro
    refine ⟨fun vs x hR hF K hK => ?_, ?_⟩
    · have f2 := hF 4 _ _ rfl rfl; have f6 := hF 0 _ _ rfl rfl; clear hF
      go_simp
      exact hK _ _ (Grow.refl _) rfl
    refine Plan.det 9 rfl (Grow.refl) ?_
    apply Exists.intro
    refine ⟨fun vs x hR hF K hK => ?_, ?_⟩
    · have f2 := hF 5 _ _ rfl rfl; have f7 := hF 0 _ _ rfl rfl; clear hF
      go_simp
      exact hK _ _ (Grow.refl _) rfl
    refine Plan.det 10 rfl (Grow.refl) ?_
    apply Exists.intro
    refine ⟨fun vs x hR hF K hK => ?_, ?_⟩
    · have f8 := hF 0 _ _ rfl rfl; have hc := HC.out x hR; clear hF
      go_simp
      exact hK _ _ (Grow.refl _) rfl
    refine Plan.det 11 rfl (Grow.refl) ?_
    apply Exists.intro
    refine ⟨fun vs x hR hF K hK => ?_, ?_⟩
    · have f8 := hF 1 _ _ rfl rfl; clear hF
      go_simp
      exact hK _ _ (Grow.refl _) rfl
    refine Plan.det 12 rfl (Grow.refl) ?_
    apply Exists.intro
    refine ⟨fun vs x hR hF K hK => ?_, ?_⟩
    · have f8 := hF 2 _ _ rfl rfl; clear hF
      go_simp
      exact hK _ _ (Grow.refl _) rfl
    refine Plan.det 13 rfl (Grow.refl) ?_
    apply Exists.intro
    refine ⟨fun vs x hR hF K hK => ?_, ?_⟩
    · have f8 := hF 3 _ _ rfl rfl; have f10 := hF 1 _ _ rfl rfl; have f11 := hF 0 _ _ rfl rfl; clear hF
      go_simp
      exact hK _ _ (Grow.refl _) rfl
    refine Plan.det 14 rfl (Grow.refl) ?_
    apply Exists.intro
    refine ⟨fun vs x hR hF K hK => ?_, ?_⟩
    · have f8 := hF 4 _ _ rfl rfl; have f9 := hF 3 _ _ rfl rfl; have f12 := hF 0 _ _ rfl rfl; clear hF
      go_simp
      refine (HH.out x).mono ?_
      rintro e x1 ⟨rfl, hbe⟩
      exact ⟨_, rfl, hK _ _ hbe rfl⟩
    refine Plan.det 15 rfl (Grow.refl) ?_
    apply Exists.intro
    refine ⟨fun vs x hR hF K hK => ?_, ?_⟩
    · have f8 := hF 5 _ _ rfl rfl; have f13 := hF 0 _ _ rfl rfl; clear hF
      go_simp
      exact hK _ _ (Grow.refl _) rfl
    refine Plan.det 16 rfl (Grow.refl) ?_
    apply Exists.intro
    refine ⟨fun vs x hR hF K hK => ?_, ?_⟩
    · have f0 := hF 14 _ _ rfl rfl; have f1 := hF 13 _ _ rfl rfl; have f2 := hF 12 _ _ rfl rfl; have f3 := hF 11 _ _ rfl rfl; have f4 := hF 10 _ _ rfl rfl; have f5 := hF 9 _ _ rfl rfl; have f6 := hF 8 _ _ rfl rfl; have f7 := hF 7 _ _ rfl rfl; have f8 := hF 6 _ _ rfl rfl; have f9 := hF 5 _ _ rfl rfl; have f10 := hF 4 _ _ rfl rfl; have f11 := hF 3 _ _ rfl rfl; have f12 := hF 2 _ _ rfl rfl; have f13 := hF 1 _ _ rfl rfl; have f14 := hF 0 _ _ rfl rfl; clear hF
      go_simp
      exact hK _ _ (Grow.refl _) rfl
    refine Plan.nil (fun vs x hR hF => ?_)
    have f0 := hF 15 _ _ rfl; have f1 := hF 14 _ _ rfl; have f2 := hF 13 _ _ rfl; have f3 := hF 12 _ _ rfl; have f4 := hF 11 _ _ rfl; have f5 := hF 10 _ _ rfl; have f6 := hF 9 _ _ rfl; have f7 := hF 8 _ _ rfl; have f8 := hF 7 _ _ rfl; have f9 := hF 6 _ _ rfl; have f10 := hF 5 _ _ rfl; have f11 := hF 4 _ _ rfl; have f12 := hF 3 _ _ rfl; have f13 := hF 2 _ _ rfl; have f14 := hF 1 _ _ rfl; have f15 := hF 0 _ _ rfl
    clear hF
    simp only [f0, f1, f2, f3, f4, f5, f6, f7, f8, f9, f10, f11, f12, f13, f14, f15]
    clear f0 f1 f2 f3 f4 f5 f6 f7 f8 f9 f10 f11 f12 f13 f14 f15
    simp only [List.drop_succ_cons, List.drop_zero]
    have hbx : Below w5.heap.size w5 x := ⟨hR.os, hR.tape, hR.output, hR.size, hR.block⟩
    have HBE := hid (HB5.out.trans (hbx.mono HB5.out.size))
    clear HC hR hbx
    go_wp2_with fail
    refine (awake11_any _).mono ?_
    rintro e w8 ⟨rfl, hb8⟩
    have HB8 := hid (HBE.out.trans (hb8.mono HBE.out.size))
    clear hb8
    go_wp2_with fail
    all_goals (try go_ret)
    all_goals exact ⟨rfl, HB8.out⟩
  | true =>
    rw [hh] at HH
    go_upto_region 5 with fail
    clear q5
    refine wp_region_inv 16 (Grow) (by kernel_rfl) (by kernel_rfl) (Grow.refl) (fun _ _ _ => Grow.trans) ?_
    simp only [fill, dstOf, Act.put, List.take_succ_cons, List.take_zero, List.getElem?_toArray, List.getElem?_cons_zero, List.getElem?_cons_succ, Option.bind_some, List.setIfInBounds_toArray, List.set_cons_zero, List.set_cons_succ]
    refine Plan.det 1 rfl (Grow.refl) ?_
    apply Exists.intro
    refine ⟨fun vs x hR hF K hK => ?_, ?_⟩
    · clear hF
      go_simp
      exact hK _ _ (Grow.refl _) rfl
    refine Plan.det 2 rfl (Grow.refl) ?_
    apply Exists.intro
    refine ⟨fun vs x hR hF K hK => ?_, ?_⟩
    · have f0 := hF 0 _ _ rfl rfl; clear hF
      go_simp
      exact hK _ _ (Grow.refl _) rfl
    refine Plan.det 3 rfl (Grow.refl) ?_
    apply Exists.intro
    refine ⟨fun vs x hR hF K hK => ?_, ?_⟩
    · have f1 := hF 0 _ _ rfl rfl; clear hF
      go_simp
      exact hK _ _ (Grow.refl _) rfl
    refine Plan.det 4 rfl (Grow.refl) ?_
    apply Exists.intro
    refine ⟨fun vs x hR hF K hK => ?_, ?_⟩
    · have f2 := hF 0 _ _ rfl rfl; clear hF
      go_simp
      exact hK _ _ (Grow.refl _) rfl
    refine Plan.det 5 rfl (Grow.refl) ?_
    apply Exists.intro
    refine ⟨fun vs x hR hF K hK => ?_, ?_⟩
    · have f2 := hF 1 _ _ rfl rfl; clear hF
      go_simp
      exact hK _ _ (Grow.refl _) rfl
    refine Plan.det 6 rfl (Grow.refl) ?_
    apply Exists.intro
    refine ⟨fun vs x hR hF K hK => ?_, ?_⟩
    · have f2 := hF 2 _ _ rfl rfl; have f4 := hF 0 _ _ rfl rfl; clear hF
      go_simp
      exact hK _ _ (Grow.refl _) rfl
    refine Plan.det 7 rfl (Grow.refl) ?_
    apply Exists.intro
    refine ⟨fun vs x hR hF K hK => ?_, ?_⟩
    · have f2 := hF 3 _ _ rfl rfl; have f3 := hF 2 _ _ rfl rfl; have f5 := hF 0 _ _ rfl rfl; clear hF
      go_simp
      exact hK _ _ (Grow.refl _) rfl
    refine Plan.det 8 rfl (Grow.refl) ?_
    apply Exists.intro
    refine ⟨fun vs x hR hF K hK => ?_, ?_⟩
    · have f2 := hF 4 _ _ rfl rfl; have f6 := hF 0 _ _ rfl rfl; clear hF
      go_simp
      exact hK _ _ (Grow.refl _) rfl
    refine Plan.det 9 rfl (Grow.refl) ?_
    apply Exists.intro
    refine ⟨fun vs x hR hF K hK => ?_, ?_⟩
    · have f2 := hF 5 _ _ rfl rfl; have f7 := hF 0 _ _ rfl rfl; clear hF
      go_simp
      exact hK _ _ (Grow.refl _) rfl
    refine Plan.det 10 rfl (Grow.refl) ?_
    apply Exists.intro
    refine ⟨fun vs x hR hF K hK => ?_, ?_⟩
    · have f8 := hF 0 _ _ rfl rfl; have hc := HC.out x hR; clear hF
      go_simp
      exact hK _ _ (Grow.refl _) rfl
    refine Plan.det 11 rfl (Grow.refl) ?_
    apply Exists.intro
    refine ⟨fun vs x hR hF K hK => ?_, ?_⟩
    · have f8 := hF 1 _ _ rfl rfl; clear hF
      go_simp
      exact hK _ _ (Grow.refl _) rfl
    refine Plan.det 12 rfl (Grow.refl) ?_
    apply Exists.intro
    refine ⟨fun vs x hR hF K hK => ?_, ?_⟩
    · have f8 := hF 2 _ _ rfl rfl; clear hF
      go_simp
      exact hK _ _ (Grow.refl _) rfl
    refine Plan.det 13 rfl (Grow.refl) ?_
    apply Exists.intro
    refine ⟨fun vs x hR hF K hK => ?_, ?_⟩
    · have f8 := hF 3 _ _ rfl rfl; have f10 := hF 1 _ _ rfl rfl; have f11 := hF 0 _ _ rfl rfl; clear hF
      go_simp
      exact hK _ _ (Grow.refl _) rfl
    refine Plan.det 14 rfl (Grow.refl) ?_
    apply Exists.intro
    refine ⟨fun vs x hR hF K hK => ?_, ?_⟩
    · have f8 := hF 4 _ _ rfl rfl; have f9 := hF 3 _ _ rfl rfl; have f12 := hF 0 _ _ rfl rfl; clear hF
      go_simp
      refine (HH.out x).mono ?_
      rintro e x1 ⟨rfl, hbe⟩
      exact ⟨_, rfl, hK _ _ hbe rfl⟩
    refine Plan.det 15 rfl (Grow.refl) ?_
    apply Exists.intro
    refine ⟨fun vs x hR hF K hK => ?_, ?_⟩
    · have f8 := hF 5 _ _ rfl rfl; have f13 := hF 0 _ _ rfl rfl; clear hF
      go_simp
      exact hK _ _ (Grow.refl _) rfl
    refine Plan.det 16 rfl (Grow.refl) ?_
    apply Exists.intro
    refine ⟨fun vs x hR hF K hK => ?_, ?_⟩
    · have f0 := hF 14 _ _ rfl rfl; have f1 := hF 13 _ _ rfl rfl; have f2 := hF 12 _ _ rfl rfl; have f3 := hF 11 _ _ rfl rfl; have f4 := hF 10 _ _ rfl rfl; have f5 := hF 9 _ _ rfl rfl; have f6 := hF 8 _ _ rfl rfl; have f7 := hF 7 _ _ rfl rfl; have f8 := hF 6 _ _ rfl rfl; have f9 := hF 5 _ _ rfl rfl; have f10 := hF 4 _ _ rfl rfl; have f11 := hF 3 _ _ rfl rfl; have f12 := hF 2 _ _ rfl rfl; have f13 := hF 1 _ _ rfl rfl; have f14 := hF 0 _ _ rfl rfl; clear hF
      go_simp
      exact hK _ _ (Grow.refl _) rfl
    refine Plan.nil (fun vs x hR hF => ?_)
    have f0 := hF 15 _ _ rfl; have f1 := hF 14 _ _ rfl; have f2 := hF 13 _ _ rfl; have f3 := hF 12 _ _ rfl; have f4 := hF 11 _ _ rfl; have f5 := hF 10 _ _ rfl; have f6 := hF 9 _ _ rfl; have f7 := hF 8 _ _ rfl; have f8 := hF 7 _ _ rfl; have f9 := hF 6 _ _ rfl; have f10 := hF 5 _ _ rfl; have f11 := hF 4 _ _ rfl; have f12 := hF 3 _ _ rfl; have f13 := hF 2 _ _ rfl; have f14 := hF 1 _ _ rfl; have f15 := hF 0 _ _ rfl
    clear hF
    simp only [f0, f1, f2, f3, f4, f5, f6, f7, f8, f9, f10, f11, f12, f13, f14, f15]
    clear f0 f1 f2 f3 f4 f5 f6 f7 f8 f9 f10 f11 f12 f13 f14 f15
    simp only [List.drop_succ_cons, List.drop_zero]
    have hbx : Below w5.heap.size w5 x := ⟨hR.os, hR.tape, hR.output, hR.size, hR.block⟩
    have HBE := hid (HB5.out.trans (hbx.mono HB5.out.size))
    clear HC hR hbx
    go_wp2_with fail
    refine (awake11_any _).mono ?_
    rintro e w8 ⟨rfl, hb8⟩
    have HB8 := hid (HBE.out.trans (hb8.mono HBE.out.size))
    clear hb8
    go_wp2_with fail
    all_goals (try go_ret)
    all_goals exact ⟨rfl, HB8.out⟩
end Go.Proofs.Ytnjcfggadeakpaa
