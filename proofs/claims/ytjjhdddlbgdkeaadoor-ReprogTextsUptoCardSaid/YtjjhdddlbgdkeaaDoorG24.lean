/- The text of a set by the reference, and a line of a program by it. -/
import Derived.Test.YtjjhdddlbgdkeaaDoorG23
import Derived.Test.YtjjhdddlbgdkeaaDoorG22
namespace Go.Proofs.YtjjhdddlbgdkeaaDoor
open Go.RowKit
attribute [local go_sem] gives givesUpon

set_option maxRecDepth 100000 in
set_option maxHeartbeats 8000000 in
theorem Ranges_any (s : Cs) (w : World) (hs : s.wf) :
    Calls Tryd.prog 27 #[.agg #[.int .u64 s.a, .int .u64 s.b, .int .u64 s.c, .int .u64 s.d]] w fun e w' => e = .returned (.string (bs (rtext s 256))) ∧ Below w.heap.size w w' := by
  have HBX : Hid (Row (w.alloc (.cells #[.int .u64 s.a, .int .u64 s.b, .int .u64 s.c, .int .u64 s.d] 33)) w.heap.size [.int .u64 s.a, .int .u64 s.b, .int .u64 s.c, .int .u64 s.d] 33) := Row.at w [.int .u64 s.a, .int .u64 s.b, .int .u64 s.c, .int .u64 s.d] _
  have HB0 : Hid (Below w.heap.size w (w.alloc (.cells #[.int .u64 s.a, .int .u64 s.b, .int .u64 s.c, .int .u64 s.d] 33))) := Grow.alloc w _
  have HH := hid (fun (x : World) (c : Nat) (h : c < 256) => Has_any s c x hs h)
  clear hs
  go_enter Tryd.func27, Tryd.ntmps27
  go_upto_region 1 with fail
  generalize w.alloc (.cells #[.int .u64 s.a, .int .u64 s.b, .int .u64 s.c, .int .u64 s.d] 33) = w1 at *
  have HBL := hid HBX.out.lt
  generalize hb0 : w.heap.size = b0 at HBX HBL
  go_wp2_with fail
  go_loopw [3, 4] (fun vl vi wr => ∃ (i : Nat) (l : List UInt8), i ≤ 256 ∧ l.length ≤ 12 * i ∧ vi = .int .i64 i ∧ vl = .string (bs l) ∧ Hid (l = rtext s i) ∧ Hid (Below w1.heap.size w1 wr)) (fun _ vi _ => 256 - (intOf vi).toNat)
  case atStart => exact ⟨0, [], by omega, by simp, rfl, rfl, rfl, Below.refl _ _⟩
  case round =>
    obtain ⟨i, l, hi, hll, rfl, rfl, HL, HW⟩ := hrel
    have HBX2 := hid (HBX.out.below HW.out HBL.out)
    have q : wr.cell? ⟨b0, 0, none⟩ = some (.int .u64 s.a) ∧ wr.cell? ⟨b0, 1, none⟩ = some (.int .u64 s.b) ∧ wr.cell? ⟨b0, 2, none⟩ = some (.int .u64 s.c) ∧ wr.cell? ⟨b0, 3, none⟩ = some (.int .u64 s.d) := ⟨HBX2.out.cell 0, HBX2.out.cell 1, HBX2.out.cell 2, HBX2.out.cell 3⟩
    have hbl : (bs l).size ≤ 3072 := by rw [bs_size]; omega
    rcases Nat.lt_or_ge i 256 with hlt | hge
    case inr =>
      obtain rfl : i = 256 := by omega
      go_wp2_with fail
      all_goals (try go_ret)
      all_goals
        subst hb0
        exact ⟨by rw [HL.out]; rfl, HB0.out.trans (HW.out.mono HB0.out.size)⟩
    have HHI := hid (HH.out wr i hlt)
    go_wp2_with fail
    refine HHI.out.mono ?_
    rintro e w2 ⟨rfl, hb2⟩
    have HW2 := hid (HW.out.trans (hb2.mono HW.out.size))
    have HBX3 := hid (HBX.out.below HW2.out HBL.out)
    have q3 : w2.cell? ⟨b0, 0, none⟩ = some (.int .u64 s.a) ∧ w2.cell? ⟨b0, 1, none⟩ = some (.int .u64 s.b) ∧ w2.cell? ⟨b0, 2, none⟩ = some (.int .u64 s.c) ∧ w2.cell? ⟨b0, 3, none⟩ = some (.int .u64 s.d) := ⟨HBX3.out.cell 0, HBX3.out.cell 1, HBX3.out.cell 2, HBX3.out.cell 3⟩
    clear hb2 q HHI
    cases hh : s.has i with
    | false =>
      have hst : isStart s i = false := by unfold isStart; rw [hh]; rfl
      go_wp2_with fail
      all_goals
        refine ⟨⟨i + 1, l, hlt, by omega, rfl, rfl, by show _ = _; rw [rtext_skip hst]; exact HL.out, HW2.out⟩, ?_⟩
        show 256 - ((i : Int) + 1).toNat < 256 - (i : Int).toNat
        omega
    | true =>
      rcases Nat.eq_zero_or_pos i with h0 | h0
      · subst h0
        have hst : isStart s 0 = true := by unfold isStart; rw [hh]; rfl
        have d0 : decide ((0 : Int) < 0) = false := by simp
        have HWX := hid HW2.out
        clear q3
        go_wp2_with fail
        go_loopw [5] (fun vk wr => ∃ k : Nat, 0 ≤ k ∧ k ≤ 255 ∧ vk = .int .i64 k ∧ Hid (runEnd s k = runEnd s 0) ∧ Hid (Below w1.heap.size w1 wr)) (fun vk _ => 255 - (intOf vk).toNat)
        case atStart => exact ⟨0, Nat.le_refl _, by omega, rfl, rfl, HWX.out⟩
        case round =>
          obtain ⟨k, hik, hk, rfl, HRE, HW3⟩ := hrel
          have HBX4 := hid (HBX.out.below HW3.out HBL.out)
          have q : wr.cell? ⟨b0, 0, none⟩ = some (.int .u64 s.a) ∧ wr.cell? ⟨b0, 1, none⟩ = some (.int .u64 s.b) ∧ wr.cell? ⟨b0, 2, none⟩ = some (.int .u64 s.c) ∧ wr.cell? ⟨b0, 3, none⟩ = some (.int .u64 s.d) := ⟨HBX4.out.cell 0, HBX4.out.cell 1, HBX4.out.cell 2, HBX4.out.cell 3⟩
          rcases Nat.lt_or_ge k 255 with hk2 | hk2
          · have dk : decide ((k : Int) < 255) = true := by simp; omega
            have HHK := hid (HH.out wr (k + 1) (by omega))
            rw [show ((k + 1 : Nat) : Int) = (k : Int) + 1 by omega] at HHK
            go_wp2_with fail
            refine HHK.out.mono ?_
            rintro e w4 ⟨rfl, hb4⟩
            have HW4 := hid (HW3.out.trans (hb4.mono HW3.out.size))
            clear hb4 q HHK
            cases hh2 : s.has (k + 1) with
            | true =>
              go_wp2_with fail
              all_goals
                refine ⟨⟨k + 1, by omega, by omega, rfl, ?_, HW4.out⟩, ?_⟩
                · show _ = _
                  rw [← HRE.out, runEnd_go hk2 hh2]
                · show 255 - ((k : Int) + 1).toNat < 255 - (k : Int).toNat
                  omega
            | false =>
              have hstop : ¬ (k < 255 ∧ s.has (k + 1) = true) := by rw [hh2]; simp
              have hre : runEnd s 0 = k := by rw [← HRE.out, runEnd_stop hstop]
              have HF1 := hid (fun (y : World) => FormatR_any 0 y (by omega))
              go_wp2_with fail
              refine (HF1.out _).mono ?_
              rintro e w5 ⟨rfl, hb5⟩
              have HW5 := hid (HW4.out.trans (hb5.mono HW4.out.size))
              have hdl := dec_len (n := 0) (by omega)
              have hds : (bs (dec 0)).size ≤ 5 := by rw [bs_size]; exact hdl
              have hdk := dec_len (n := k) (by omega)
              have hdks : (bs (dec k)).size ≤ 5 := by rw [bs_size]; exact hdk
              clear hb5 HF1
              rcases Nat.lt_or_ge 0 k with hik2 | hik2
              · have dik : decide ((0 : Int) < (k : Int)) = true := by simp; omega
                have HF2 := hid (FormatR_any k w5 (by omega))
                have HTX : Hid (bs l ++ (⟨#[32]⟩ : ByteArray) ++ bs (dec 0) ++ (⟨#[45]⟩ : ByteArray) ++ bs (dec k) = bs (rtext s (0 + 1))) := by
                  show _ = _
                  rw [rtext_add hst, ← HL.out]
                  unfold runText
                  rw [hre, if_pos hik2]
                  show bs l ++ bs [32] ++ bs (dec 0) ++ bs [45] ++ bs (dec k) = _
                  rw [bs_app, bs_app, bs_app, bs_app]
                  congr 1
                  simp
                go_wp2_with fail
                refine HF2.out.mono ?_
                rintro e w6 ⟨rfl, hb6⟩
                have HW6 := hid (HW5.out.trans (hb6.mono HW5.out.size))
                clear hb6 HF2
                go_wp2_with fail
                all_goals
                  refine ⟨⟨0 + 1, rtext s (0 + 1), by omega, ?_, rfl, by rw [HTX.out], rfl, HW6.out⟩, ?_⟩
                  · have := rtext_len s (0 + 1) (by omega); omega
                  · show 256 - ((0 : Int) + 1).toNat < 256 - (0 : Int).toNat
                    omega
              · obtain rfl : k = 0 := by omega
                have dik : decide ((0 : Int) < (0 : Int)) = false := by simp
                have HTX : Hid (bs l ++ (⟨#[32]⟩ : ByteArray) ++ bs (dec 0) = bs (rtext s (0 + 1))) := by
                  show _ = _
                  rw [rtext_add hst, ← HL.out]
                  unfold runText
                  rw [hre, if_neg (by omega), List.append_nil]
                  show bs l ++ bs [32] ++ bs (dec 0) = _
                  rw [bs_app, bs_app]
                  congr 1
                  simp
                go_wp2_with fail
                all_goals
                  refine ⟨⟨0 + 1, rtext s (0 + 1), by omega, ?_, rfl, by rw [HTX.out], rfl, HW5.out⟩, ?_⟩
                  · have := rtext_len s (0 + 1) (by omega); omega
                  · show 256 - ((0 : Int) + 1).toNat < 256 - (0 : Int).toNat
                    omega
          · have dk : decide ((k : Int) < 255) = false := by simp; omega
            have hstop : ¬ (k < 255 ∧ s.has (k + 1) = true) := by omega
            clear q
            have hre : runEnd s 0 = k := by rw [← HRE.out, runEnd_stop hstop]
            have HF1 := hid (fun (y : World) => FormatR_any 0 y (by omega))
            go_wp2_with fail
            refine (HF1.out _).mono ?_
            rintro e w5 ⟨rfl, hb5⟩
            have HW5 := hid (HW3.out.trans (hb5.mono HW3.out.size))
            have hdl := dec_len (n := 0) (by omega)
            have hds : (bs (dec 0)).size ≤ 5 := by rw [bs_size]; exact hdl
            have hdk := dec_len (n := k) (by omega)
            have hdks : (bs (dec k)).size ≤ 5 := by rw [bs_size]; exact hdk
            clear hb5 HF1
            rcases Nat.lt_or_ge 0 k with hik2 | hik2
            · have dik : decide ((0 : Int) < (k : Int)) = true := by simp; omega
              have HF2 := hid (FormatR_any k w5 (by omega))
              have HTX : Hid (bs l ++ (⟨#[32]⟩ : ByteArray) ++ bs (dec 0) ++ (⟨#[45]⟩ : ByteArray) ++ bs (dec k) = bs (rtext s (0 + 1))) := by
                show _ = _
                rw [rtext_add hst, ← HL.out]
                unfold runText
                rw [hre, if_pos hik2]
                show bs l ++ bs [32] ++ bs (dec 0) ++ bs [45] ++ bs (dec k) = _
                rw [bs_app, bs_app, bs_app, bs_app]
                congr 1
                simp
              go_wp2_with fail
              refine HF2.out.mono ?_
              rintro e w6 ⟨rfl, hb6⟩
              have HW6 := hid (HW5.out.trans (hb6.mono HW5.out.size))
              clear hb6 HF2
              go_wp2_with fail
              all_goals
                refine ⟨⟨0 + 1, rtext s (0 + 1), by omega, ?_, rfl, by rw [HTX.out], rfl, HW6.out⟩, ?_⟩
                · have := rtext_len s (0 + 1) (by omega); omega
                · show 256 - ((0 : Int) + 1).toNat < 256 - (0 : Int).toNat
                  omega
            · obtain rfl : k = 0 := by omega
              have dik : decide ((0 : Int) < (0 : Int)) = false := by simp
              have HTX : Hid (bs l ++ (⟨#[32]⟩ : ByteArray) ++ bs (dec 0) = bs (rtext s (0 + 1))) := by
                show _ = _
                rw [rtext_add hst, ← HL.out]
                unfold runText
                rw [hre, if_neg (by omega), List.append_nil]
                show bs l ++ bs [32] ++ bs (dec 0) = _
                rw [bs_app, bs_app]
                congr 1
                simp
              go_wp2_with fail
              all_goals
                refine ⟨⟨0 + 1, rtext s (0 + 1), by omega, ?_, rfl, by rw [HTX.out], rfl, HW5.out⟩, ?_⟩
                · have := rtext_len s (0 + 1) (by omega); omega
                · show 256 - ((0 : Int) + 1).toNat < 256 - (0 : Int).toNat
                  omega
      · obtain ⟨j, rfl⟩ : ∃ j, i = j + 1 := ⟨i - 1, by omega⟩
        have d0 : decide ((0 : Int) < (j : Int) + 1) = true := decide_eq_true (by omega)
        have HHJ := hid (HH.out w2 j (by omega))
        go_wp2_with fail
        refine HHJ.out.mono ?_
        rintro e w3 ⟨rfl, hb3⟩
        have HWX := hid (HW2.out.trans (hb3.mono HW2.out.size))
        clear hb3 q3 HHJ
        cases hj : s.has j with
        | true =>
          have hst : isStart s (j + 1) = false := by
            unfold isStart
            rw [show j + 1 - 1 = j by omega, hj]
            simp
          go_wp2_with fail
          all_goals
            refine ⟨⟨j + 1 + 1, l, hlt, by omega, by go_num, rfl, by show _ = _; rw [rtext_skip hst]; exact HL.out, HWX.out⟩, ?_⟩
            show 256 - ((j : Int) + 1 + 1).toNat < 256 - ((j : Int) + 1).toNat
            omega
        | false =>
          have hst : isStart s (j + 1) = true := by
            unfold isStart
            rw [show j + 1 - 1 = j by omega, hj, hh]
            simp
          go_wp2_with fail
          go_loopw [5] (fun vk wr => ∃ k : Nat, (j + 1) ≤ k ∧ k ≤ 255 ∧ vk = .int .i64 k ∧ Hid (runEnd s k = runEnd s (j + 1)) ∧ Hid (Below w1.heap.size w1 wr)) (fun vk _ => 255 - (intOf vk).toNat)
          case atStart => exact ⟨(j + 1), Nat.le_refl _, by omega, rfl, rfl, HWX.out⟩
          case round =>
            obtain ⟨k, hik, hk, rfl, HRE, HW3⟩ := hrel
            have HBX4 := hid (HBX.out.below HW3.out HBL.out)
            have q : wr.cell? ⟨b0, 0, none⟩ = some (.int .u64 s.a) ∧ wr.cell? ⟨b0, 1, none⟩ = some (.int .u64 s.b) ∧ wr.cell? ⟨b0, 2, none⟩ = some (.int .u64 s.c) ∧ wr.cell? ⟨b0, 3, none⟩ = some (.int .u64 s.d) := ⟨HBX4.out.cell 0, HBX4.out.cell 1, HBX4.out.cell 2, HBX4.out.cell 3⟩
            rcases Nat.lt_or_ge k 255 with hk2 | hk2
            · have dk : decide ((k : Int) < 255) = true := by simp; omega
              have HHK := hid (HH.out wr (k + 1) (by omega))
              rw [show ((k + 1 : Nat) : Int) = (k : Int) + 1 by omega] at HHK
              go_wp2_with fail
              refine HHK.out.mono ?_
              rintro e w4 ⟨rfl, hb4⟩
              have HW4 := hid (HW3.out.trans (hb4.mono HW3.out.size))
              clear hb4 q HHK
              cases hh2 : s.has (k + 1) with
              | true =>
                go_wp2_with fail
                all_goals
                  refine ⟨⟨k + 1, by omega, by omega, rfl, ?_, HW4.out⟩, ?_⟩
                  · show _ = _
                    rw [← HRE.out, runEnd_go hk2 hh2]
                  · show 255 - ((k : Int) + 1).toNat < 255 - (k : Int).toNat
                    omega
              | false =>
                have hstop : ¬ (k < 255 ∧ s.has (k + 1) = true) := by rw [hh2]; simp
                have hre : runEnd s (j + 1) = k := by rw [← HRE.out, runEnd_stop hstop]
                have HF1 := hid (fun (y : World) => FormatR_any (j + 1) y (by omega))
                go_wp2_with fail
                refine (HF1.out _).mono ?_
                rintro e w5 ⟨rfl, hb5⟩
                have HW5 := hid (HW4.out.trans (hb5.mono HW4.out.size))
                have hdl := dec_len (n := (j + 1)) (by omega)
                have hds : (bs (dec (j + 1))).size ≤ 5 := by rw [bs_size]; exact hdl
                have hdk := dec_len (n := k) (by omega)
                have hdks : (bs (dec k)).size ≤ 5 := by rw [bs_size]; exact hdk
                clear hb5 HF1
                rcases Nat.lt_or_ge (j + 1) k with hik2 | hik2
                · have dik : decide (((j + 1) : Int) < (k : Int)) = true := by simp; omega
                  have HF2 := hid (FormatR_any k w5 (by omega))
                  have HTX : Hid (bs l ++ (⟨#[32]⟩ : ByteArray) ++ bs (dec (j + 1)) ++ (⟨#[45]⟩ : ByteArray) ++ bs (dec k) = bs (rtext s ((j + 1) + 1))) := by
                    show _ = _
                    rw [rtext_add hst, ← HL.out]
                    unfold runText
                    rw [hre, if_pos hik2]
                    show bs l ++ bs [32] ++ bs (dec (j + 1)) ++ bs [45] ++ bs (dec k) = _
                    rw [bs_app, bs_app, bs_app, bs_app]
                    congr 1
                    simp
                  go_wp2_with fail
                  refine HF2.out.mono ?_
                  rintro e w6 ⟨rfl, hb6⟩
                  have HW6 := hid (HW5.out.trans (hb6.mono HW5.out.size))
                  clear hb6 HF2
                  go_wp2_with fail
                  all_goals
                    refine ⟨⟨(j + 1) + 1, rtext s ((j + 1) + 1), by omega, ?_, rfl, by rw [HTX.out], rfl, HW6.out⟩, ?_⟩
                    · have := rtext_len s ((j + 1) + 1) (by omega); omega
                    · show 256 - (((j + 1) : Int) + 1).toNat < 256 - ((j + 1) : Int).toNat
                      omega
                · obtain rfl : k = (j + 1) := by omega
                  have dik : decide (((j + 1) : Int) < ((j + 1) : Int)) = false := by simp
                  have HTX : Hid (bs l ++ (⟨#[32]⟩ : ByteArray) ++ bs (dec (j + 1)) = bs (rtext s ((j + 1) + 1))) := by
                    show _ = _
                    rw [rtext_add hst, ← HL.out]
                    unfold runText
                    rw [hre, if_neg (by omega), List.append_nil]
                    show bs l ++ bs [32] ++ bs (dec (j + 1)) = _
                    rw [bs_app, bs_app]
                    congr 1
                    simp
                  go_wp2_with fail
                  all_goals
                    refine ⟨⟨(j + 1) + 1, rtext s ((j + 1) + 1), by omega, ?_, rfl, by rw [HTX.out], rfl, HW5.out⟩, ?_⟩
                    · have := rtext_len s ((j + 1) + 1) (by omega); omega
                    · show 256 - (((j + 1) : Int) + 1).toNat < 256 - ((j + 1) : Int).toNat
                      omega
            · have dk : decide ((k : Int) < 255) = false := by simp; omega
              have hstop : ¬ (k < 255 ∧ s.has (k + 1) = true) := by omega
              clear q
              have hre : runEnd s (j + 1) = k := by rw [← HRE.out, runEnd_stop hstop]
              have HF1 := hid (fun (y : World) => FormatR_any (j + 1) y (by omega))
              go_wp2_with fail
              refine (HF1.out _).mono ?_
              rintro e w5 ⟨rfl, hb5⟩
              have HW5 := hid (HW3.out.trans (hb5.mono HW3.out.size))
              have hdl := dec_len (n := (j + 1)) (by omega)
              have hds : (bs (dec (j + 1))).size ≤ 5 := by rw [bs_size]; exact hdl
              have hdk := dec_len (n := k) (by omega)
              have hdks : (bs (dec k)).size ≤ 5 := by rw [bs_size]; exact hdk
              clear hb5 HF1
              rcases Nat.lt_or_ge (j + 1) k with hik2 | hik2
              · have dik : decide (((j + 1) : Int) < (k : Int)) = true := by simp; omega
                have HF2 := hid (FormatR_any k w5 (by omega))
                have HTX : Hid (bs l ++ (⟨#[32]⟩ : ByteArray) ++ bs (dec (j + 1)) ++ (⟨#[45]⟩ : ByteArray) ++ bs (dec k) = bs (rtext s ((j + 1) + 1))) := by
                  show _ = _
                  rw [rtext_add hst, ← HL.out]
                  unfold runText
                  rw [hre, if_pos hik2]
                  show bs l ++ bs [32] ++ bs (dec (j + 1)) ++ bs [45] ++ bs (dec k) = _
                  rw [bs_app, bs_app, bs_app, bs_app]
                  congr 1
                  simp
                go_wp2_with fail
                refine HF2.out.mono ?_
                rintro e w6 ⟨rfl, hb6⟩
                have HW6 := hid (HW5.out.trans (hb6.mono HW5.out.size))
                clear hb6 HF2
                go_wp2_with fail
                all_goals
                  refine ⟨⟨(j + 1) + 1, rtext s ((j + 1) + 1), by omega, ?_, rfl, by rw [HTX.out], rfl, HW6.out⟩, ?_⟩
                  · have := rtext_len s ((j + 1) + 1) (by omega); omega
                  · show 256 - (((j + 1) : Int) + 1).toNat < 256 - ((j + 1) : Int).toNat
                    omega
              · obtain rfl : k = (j + 1) := by omega
                have dik : decide (((j + 1) : Int) < ((j + 1) : Int)) = false := by simp
                have HTX : Hid (bs l ++ (⟨#[32]⟩ : ByteArray) ++ bs (dec (j + 1)) = bs (rtext s ((j + 1) + 1))) := by
                  show _ = _
                  rw [rtext_add hst, ← HL.out]
                  unfold runText
                  rw [hre, if_neg (by omega), List.append_nil]
                  show bs l ++ bs [32] ++ bs (dec (j + 1)) = _
                  rw [bs_app, bs_app]
                  congr 1
                  simp
                go_wp2_with fail
                all_goals
                  refine ⟨⟨(j + 1) + 1, rtext s ((j + 1) + 1), by omega, ?_, rfl, by rw [HTX.out], rfl, HW5.out⟩, ?_⟩
                  · have := rtext_len s ((j + 1) + 1) (by omega); omega
                  · show 256 - (((j + 1) : Int) + 1).toNat < 256 - ((j + 1) : Int).toNat
                    omega
end Go.Proofs.YtjjhdddlbgdkeaaDoor

/- Valid of any program: the program's and the reference's. Written by gen_valid.py. -/
namespace Go.Proofs.YtjjhdddlbgdkeaaDoor
open Go.RowKit
attribute [local go_sem] gives givesUpon

set_option maxHeartbeats 1000000 in
theorem there2_any (k : Int) (n : Nat) (B : Nat) (w : World) (hB : Row w B [.int .i64 n] 3) :
    Calls Tryd.prog 11 #[.int .i64 k, .pointer (some ⟨B, 0, none⟩)] w fun e w' => e = .returned (.bool (decide (0 ≤ k) && decide (k < n))) ∧ w' = w := by
  have q := hB.c1
  rcases Int.lt_or_le k 0 with h0 | h0
  · go_enter Tryd.func11, Tryd.ntmps11
    go_wp2
    all_goals go_ret
    all_goals exact ⟨ret_bool (by simp; try omega), rfl⟩
  · go_enter Tryd.func11, Tryd.ntmps11
    go_wp2
    all_goals go_ret
    all_goals exact ⟨ret_bool (by simp; try omega), rfl⟩
def VPost (L : List Inst) (w : World) (e : Ending) (w' : World) : Prop := ∃ b, e = .returned (.bool b) ∧ (b = true ↔ rightAll L) ∧ Below w.heap.size w w'
theorem not_right {L : List Inst} {k : Nat} (h : k < L.length) (hn : ¬ L[k].right L.length k) : ¬ rightAll L := fun hr => hn (hr.2 k h)
set_option maxRecDepth 100000 in
set_option maxHeartbeats 8000000 in
theorem Valid2_any (w : World) (a : Option Addr) (c : Nat) (L : List Inst) (lines : Bool) (h : InsAt w a L) (hn : L.length ≤ 4096) :
    Calls Tryd.prog 5 #[.agg #[.slice a L.length c, .bool lines]] w (VPost L w) := by
  have H := hid h
  clear h
  have HPT : Hid (∀ w', rightAll L → Below w.heap.size w w' → VPost L w (.returned (.bool true)) w') := fun w' h1 h2 => ⟨true, rfl, by simp [h1], h2⟩
  have HPF : Hid (∀ w', ¬ rightAll L → Below w.heap.size w w' → VPost L w (.returned (.bool false)) w') := fun w' h1 h2 => ⟨false, rfl, by simp [h1], h2⟩
  generalize VPost L w = PP at *
  have HB0 : Hid (Below w.heap.size w ((w.alloc (.cells #[.slice a L.length c, .bool lines] 24)).alloc (.cells #[.int .i64 L.length] 3)) ∧ Row ((w.alloc (.cells #[.slice a L.length c, .bool lines] 24)).alloc (.cells #[.int .i64 L.length] 3)) (w.heap.size + 1) [.int .i64 L.length] 3) := ⟨(Grow.alloc w _).trans (Grow.alloc _ _), Row.new (by simp)⟩
  rcases Nat.eq_zero_or_pos L.length with h0 | h0
  · have HNR : Hid (¬ rightAll L) := fun hr => by have := hr.1.1; omega
    have hB1 := HB0.out.1
    rw [h0] at hB1
    have HB1 := hid hB1
    clear hB1
    go_enter Tryd.func5, Tryd.ntmps5
    go_wp2_with fail
    all_goals (try go_ret)
    all_goals exact HPF.out _ HNR.out HB1.out
  go_enter Tryd.func5, Tryd.ntmps5
  go_wp2_with fail
  generalize ((w.alloc (.cells #[.slice a L.length c, .bool lines] 24)).alloc (.cells #[.int .i64 L.length] 3)) = w1 at *
  generalize w.heap.size + 1 = nb at *
  go_loopw [21] (fun v wr => ∃ k : Nat, k ≤ L.length ∧ v = .int .i64 k ∧ (Hid (Below w.heap.size w wr ∧ Row wr nb [.int .i64 L.length] 3)) ∧ Hid (∀ j (h : j < L.length), j < k → L[j].right L.length j)) (fun v _ => L.length - (intOf v).toNat)
  case atStart => exact ⟨0, by omega, rfl, HB0.out, fun j h hj => absurd hj (by omega)⟩
  case round =>
    obtain ⟨k, hk, rfl, HX, HK⟩ := hrel
    rcases Nat.lt_or_ge k L.length with hlt | hge
    · have HNR := hid (fun hn => @not_right L k hlt hn)
      have HST : Hid (L[k].right L.length k → ∀ j (h : j < L.length), j < k + 1 → L[j].right L.length j) := by
        intro h1 j h hj
        rcases Nat.lt_or_ge j k with h2 | h2
        · exact HK.out j h h2
        · obtain rfl : j = k := by omega
          exact h1
      obtain ⟨fb, fo, hfa, hfb, hfc⟩ := (H.out.below HX.out.1 (Nat.le_refl _)).at hlt
      subst hfa
      have q2 := HX.out.2.c1
      have z2 := HX.out.2.lt
      generalize L[k] = f at *
      obtain ⟨fop, fset, fx, fy⟩ := f
      have q := cells7 (show CellsAt wr fb (fo + k * 7) [.int .i64 fop, .int .u64 fset.a, .int .u64 fset.b, .int .u64 fset.c, .int .u64 fset.d, .int .i64 fx, .int .i64 fy] from hfc)
      have HBA : Hid (Below wr.heap.size wr (wr.alloc (.cells #[.int .i64 fop, .int .u64 fset.a, .int .u64 fset.b, .int .u64 fset.c, .int .u64 fset.d, .int .i64 fx, .int .i64 fy] 35))) := (Below.refl _ _).alloc (Nat.le_refl _) _
      have HBX : Hid (Row (wr.alloc (.cells #[.int .i64 fop, .int .u64 fset.a, .int .u64 fset.b, .int .u64 fset.c, .int .u64 fset.d, .int .i64 fx, .int .i64 fy] 35)) wr.heap.size [.int .i64 fop, .int .u64 fset.a, .int .u64 fset.b, .int .u64 fset.c, .int .u64 fset.d, .int .i64 fx, .int .i64 fy] 35) := Row.at wr [.int .i64 fop, .int .u64 fset.a, .int .u64 fset.b, .int .u64 fset.c, .int .u64 fset.d, .int .i64 fx, .int .i64 fy] _
      have HXA := hid (And.intro (HX.out.1.trans (HBA.out.mono HX.out.1.size)) (HX.out.2.below HBA.out z2))
      unfold Inst.right at HNR HST
      simp only at HNR HST
      have hkI : (k : Int) < (L.length : Int) := by omega
      clear hfc
      go_upto_region 8 with fail
      clear q q2 z2 HX HBA
      generalize wr.alloc (.cells #[.int .i64 fop, .int .u64 fset.a, .int .u64 fset.b, .int .u64 fset.c, .int .u64 fset.d, .int .i64 fx, .int .i64 fy] 35) = y at *
      generalize wr.heap.size = bx at *
      have q := row7 HBX.out
      have q2 := HXA.out.2.c1
      have hcase : (fop = 1 ∨ fop = 4 ∨ fop = 5) ∨ fop = 2 ∨ fop = 3 ∨ fop = 6 ∨ (¬ fop = 1 ∧ ¬ fop = 2 ∧ ¬ fop = 3 ∧ ¬ fop = 4 ∧ ¬ fop = 5 ∧ ¬ fop = 6) := by omega
      rcases hcase with ho | ho | ho | ho | ho
      · have HO3 := hid ho
        rcases Nat.lt_or_ge (k + 1) L.length with hk1 | hk1
        · have hkk : decide ((k : Int) < (L.length : Int) - 1) = true := by simp; omega
          have hkJ : (k : Int) < (L.length : Int) - 1 := by omega
          rcases ho with rfl | rfl | rfl
          all_goals
            go_wp2_with fail
            case roundEnd =>
              refine ⟨⟨k + 1, hlt, rfl, HXA.out, HST.out (.inl ⟨HO3.out, hk1⟩)⟩, ?_⟩
              show L.length - ((k : Int) + 1).toNat < L.length - (k : Int).toNat
              omega
        · have hkk : decide ((k : Int) < (L.length : Int) - 1) = false := by simp; omega
          have hkJ : ¬ (k : Int) < (L.length : Int) - 1 := by omega
          rcases ho with rfl | rfl | rfl
          all_goals
            go_wp2_with fail
            all_goals (try go_ret)
            all_goals exact HPF.out _ (HNR.out (by omega)) HXA.out.1
      · subst ho
        have HT := hid (fun (v : Int) (y : World) (h : Row y nb [.int .i64 L.length] 3) => there2_any v L.length nb y h)
        rcases Decidable.em (0 ≤ fx ∧ fx < L.length) with hx | hx
        · have hb1 : (decide (0 ≤ fx) && decide (fx < (L.length : Int))) = true := by simp; omega
          rcases Decidable.em (0 ≤ fy ∧ fy < L.length) with hy | hy
          · have hb2 : (decide (0 ≤ fy) && decide (fy < (L.length : Int))) = true := by simp; omega
            go_wp2_with fail
            refine (HT.out fx _ HXA.out.2).mono ?_
            rintro e w5 ⟨rfl, rfl⟩
            rw [hb1]
            go_wp2_with fail
            refine (HT.out fy _ HXA.out.2).mono ?_
            rintro e w5 ⟨rfl, rfl⟩
            rw [hb2]
            go_wp2_with fail
            case roundEnd =>
              refine ⟨⟨k + 1, hlt, rfl, HXA.out, HST.out (.inr (.inl ⟨trivial, hx, hy⟩))⟩, ?_⟩
              show L.length - ((k : Int) + 1).toNat < L.length - (k : Int).toNat
              omega
          · have hb2 : (decide (0 ≤ fy) && decide (fy < (L.length : Int))) = false := by simp; omega
            go_wp2_with fail
            refine (HT.out fx _ HXA.out.2).mono ?_
            rintro e w5 ⟨rfl, rfl⟩
            rw [hb1]
            go_wp2_with fail
            refine (HT.out fy _ HXA.out.2).mono ?_
            rintro e w5 ⟨rfl, rfl⟩
            rw [hb2]
            go_wp2_with fail
            all_goals (try go_ret)
            all_goals exact HPF.out _ (HNR.out (by omega)) HXA.out.1
        · have hb1 : (decide (0 ≤ fx) && decide (fx < (L.length : Int))) = false := by simp; omega
          go_wp2_with fail
          refine (HT.out fx _ HXA.out.2).mono ?_
          rintro e w5 ⟨rfl, rfl⟩
          rw [hb1]
          go_wp2_with fail
          all_goals (try go_ret)
          all_goals exact HPF.out _ (HNR.out (by omega)) HXA.out.1
      · subst ho
        have HT := hid (fun (v : Int) (y : World) (h : Row y nb [.int .i64 L.length] 3) => there2_any v L.length nb y h)
        rcases Decidable.em (0 ≤ fx ∧ fx < L.length) with hx | hx
        · have hb1 : (decide (0 ≤ fx) && decide (fx < (L.length : Int))) = true := by simp; omega
          go_wp2_with fail
          refine (HT.out fx _ HXA.out.2).mono ?_
          rintro e w5 ⟨rfl, rfl⟩
          rw [hb1]
          go_wp2_with fail
          case roundEnd =>
            refine ⟨⟨k + 1, hlt, rfl, HXA.out, HST.out (.inr (.inr (.inl ⟨trivial, hx⟩)))⟩, ?_⟩
            show L.length - ((k : Int) + 1).toNat < L.length - (k : Int).toNat
            omega
        · have hb1 : (decide (0 ≤ fx) && decide (fx < (L.length : Int))) = false := by simp; omega
          go_wp2_with fail
          refine (HT.out fx _ HXA.out.2).mono ?_
          rintro e w5 ⟨rfl, rfl⟩
          rw [hb1]
          go_wp2_with fail
          all_goals (try go_ret)
          all_goals exact HPF.out _ (HNR.out (by omega)) HXA.out.1
      · subst ho
        go_wp2_with fail
        case roundEnd =>
          refine ⟨⟨k + 1, hlt, rfl, HXA.out, HST.out (.inr (.inr (.inr rfl)))⟩, ?_⟩
          show L.length - ((k : Int) + 1).toNat < L.length - (k : Int).toNat
          omega
      · obtain ⟨o1, o2, o3, o4, o5, o6⟩ := ho
        have HO := hid (And.intro o1 (And.intro o2 (And.intro o3 (And.intro o4 (And.intro o5 o6)))))
        have d1 : (fop == 1) = false := by simpa using o1
        have d2 : (fop == 2) = false := by simpa using o2
        have d3 : (fop == 3) = false := by simpa using o3
        have d4 : (fop == 4) = false := by simpa using o4
        have d5 : (fop == 5) = false := by simpa using o5
        have d6 : (fop == 6) = false := by simpa using o6
        clear o1 o2 o3 o4 o5 o6
        go_wp2_with fail
        all_goals (try go_ret)
        all_goals exact HPF.out _ (HNR.out (by have := HO.out; omega)) HXA.out.1
    · obtain rfl : k = L.length := by omega
      have HR : Hid (rightAll L) := ⟨⟨by omega, hn⟩, fun j h => HK.out j h h⟩
      go_wp2_with fail
      all_goals (try go_ret)
      all_goals exact HPT.out _ HR.out HX.out.1
end Go.Proofs.YtjjhdddlbgdkeaaDoor
