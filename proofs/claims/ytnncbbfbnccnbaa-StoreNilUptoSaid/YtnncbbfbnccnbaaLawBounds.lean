/- The law StoreBounds: its walk answers true. -/
import Derived.Test.YtnncbbfbnccnbaaOneOps
import Derived.Test.YtnncbbfbnccnbaaRefName
import Derived.BigQuiet
namespace Go.Proofs.Ytnncbbfbnccnbaa
open Go.RowKit Go.Maps Go.Sort
attribute [local go_sem] gives givesUpon

/-- The calls of a law that came in. -/
structure CallsFit (l : List CallD) : Prop where
  start : ∀ i (h : i < l.length), l[i].start ≤ 9223372036854775807
  n : ∀ i (h : i < l.length), l[i].n ≤ 9223372036854775807
theorem call_fit {l : List CallD} (h : CallsFit l) (f : fewOk l) (i : Nat) (hi : i < l.length) : l[i].fit := ⟨(f.2 i hi).2, (f.2 i hi).1, h.start i hi, h.n i hi⟩
theorem good0 (n : Int) (h : 0 ≤ n ∧ n ≤ 262144) : (Ab.mk n 0 0 [] false 0).good :=
  ⟨⟨rfl, ⟨h.1, h.2⟩, ⟨Int.le_refl _, h.1⟩, (fun f hf => by cases hf), ⟨Int.le_refl _, (by show (0 : Int) ≤ 9223372036854775807; decide)⟩⟩, (by show 0 ≤ 64; omega), (fun f hf => by cases hf)⟩
theorem One.new' (n : Int) (w : World) : Calls Try.prog 9 #[.int .i64 n] w fun e w' => e = .returned (.pointer (some ⟨w.heap.size + 1, 0, none⟩)) ∧ One w (w.heap.size + 1) ⟨min (max n 0) 262144, 0, 0, [], false, 0⟩ w' := by
  refine (New_any n w).mono ?_
  rintro e w' ⟨rfl, h1, h2⟩
  exact ⟨rfl, _, rfl, h1, h2⟩

theorem total_take : ∀ (l : List Fl) (j : Nat) (h : j < l.length), total (l.take (j + 1)) = total (l.take j) + l[j].text.length
  | x :: l, 0, h => by
    show total ([x]) = 0 + x.text.length
    show x.text.length + 0 = _
    omega
  | x :: l, j + 1, h => by
    show x.text.length + total (l.take (j + 1)) = x.text.length + total (l.take j) + (l[j]'(Nat.lt_of_succ_lt_succ h)).text.length
    have := total_take l j (Nat.lt_of_succ_lt_succ h)
    omega
theorem total_take_le : ∀ (l : List Fl) (j : Nat), total (l.take j) ≤ total l
  | [], j => by rw [List.take_nil]; exact Nat.le_refl _
  | x :: l, 0 => Nat.zero_le _
  | x :: l, j + 1 => by
    show x.text.length + total (l.take j) ≤ x.text.length + total l
    have := total_take_le l j
    omega

theorem nameOk_short {l : List UInt8} (h : nameOk l = true) : 1 ≤ l.length ∧ l.length ≤ 32 := by
  unfold nameOk at h
  simp only [Bool.and_eq_true, decide_eq_true_eq] at h
  exact ⟨h.1.1.1, h.1.1.2⟩
theorem bytesLess_before : ∀ a b : List UInt8, Op.bytesLess a b = bytesBefore a b
  | [], [] => rfl
  | [], _ :: _ => rfl
  | _ :: _, [] => rfl
  | a :: r, b :: s => by
    show _ = (decide (a < b) || (a == b && bytesBefore r s))
    rw [← bytesLess_before r s]
    rfl
theorem RefName_ok (l : List UInt8) (w : World) (h : nameOk l = true) : Calls Try.prog 26 #[.string ⟨l.toArray⟩] w fun e w' => e = .returned (.bool true) ∧ w' = w := by
  have hs := nameOk_short h
  refine (RefName_any ⟨l.toArray⟩ w (by show l.toArray.size ≤ _; rw [List.size_toArray]; omega)).mono ?_
  rintro e w' ⟨rfl, rfl⟩
  exact ⟨by show _ = Ending.returned (.bool true); rw [← h], rfl⟩

set_option maxRecDepth 100000 in
set_option maxHeartbeats 8000000 in
theorem LawBounds_any (w : World) (n : Int) (a : Option Addr) (cap : Nat) (l : List CallD) (hl : CallsAt w a l) (hn : l.length ≤ 4611686018427387904) (hf : CallsFit l) :
    Calls Try.prog 7 #[.int .i64 n, .slice a l.length cap] w fun e w' => e = .returned (.bool true) ∧ Below w.heap.size w w' := by
  have HL := hid hl
  have HF := hid hf
  clear hl hf
  go_enter Try.func7, Try.ntmps7
  go_wp2_with fail
  refine (few_any w a cap l HL.out hn).mono ?_
  rintro e w0 ⟨b, rfl, rfl, hb⟩
  cases b with
  | false =>
    go_wp2_with fail
    refine (awake_any _).mono ?_
    rintro e wz ⟨rfl, hbz⟩
    have HZ := hid hbz
    clear hbz
    go_wp2_with fail
    go_ret
    exact ⟨rfl, HZ.out⟩
  | true =>
    have HFEW := hid (hb rfl)
    clear hb
    go_wp2_with fail
    refine (One.new' n _).mono ?_
    rintro e w1 ⟨rfl, ho⟩
    have HO := hid ho
    have hlim : 0 ≤ min (max n 0) 262144 ∧ min (max n 0) 262144 ≤ 262144 ∧ min (max n 0) 262144 ≤ max 0 n := by omega
    have hg0 := good0 _ ⟨hlim.1, hlim.2.1⟩
    have HG0 := hid hg0
    clear ho hg0
    generalize min (max n 0) 262144 = lim at *
    go_wp2_with fail
    go_loopw [6, 7] (fun pk i wr => ∃ (k : Nat) (ab : Ab), k ≤ l.length ∧ pk = .int .i64 ab.peak ∧ i = .int .i64 k ∧ Hid (One w0 (w0.heap.size + 1) ab wr) ∧ Hid ab.good ∧ Hid (ab.limit = lim)) (fun _ i _ => l.length - (intOf i).toNat)
    case atStart => exact ⟨0, _, by omega, rfl, rfl, HO.out, HG0.out, rfl⟩
    case round =>
      obtain ⟨k, ab, hk, rfl, rfl, HX, HG, HLM⟩ := hrel
      rcases Nat.lt_or_ge k l.length with hlt | hge
      · obtain ⟨b, o, rfl, hb, hc⟩ : ∃ b o, a = some ⟨b, o, none⟩ ∧ b < wr.heap.size ∧ ∀ i (h : i < l.length), CellsAt wr b (o + i * 6) l[i].cells := by
          rcases HL.out.below HX.out.below with h | h
          · rw [h] at hlt; cases hlt
          · exact h
        have HC := hid (hc k hlt)
        have HFT := hid (call_fit HF.out HFEW.out k hlt)
        have HUP := hid (HX.out.up HG.out l[k] HFT.out.n)
        have HCALL := hid (HX.out.call HG.out l[k] HFT.out)
        generalize l[k] = c at *
        clear hc
        go_wp2_with (first | (with_reducible (refine wpList_load_agg rfl 41 _ rfl b (o + (k * 6)) rfl _ _ HC.out Try.underlying41 rfl (size_call c) ?_)))
        refine HCALL.out.mono ?_
        rintro e w2 ⟨rfl, ho⟩
        generalize ab.call c = res at *
        obtain ⟨⟨rt, re⟩, ab2⟩ := res
        simp only at ho
        have HO2 := hid ho
        clear ho HCALL HX HC
        have hup := HUP.out
        obtain ⟨hg2, hl2, hp2⟩ := hup
        simp only at hg2 hl2 hp2
        rw [HLM.out] at hl2
        have u1 := hg2.ok.limit
        have u2 := hg2.ok.peak
        have HG2 := hid hg2
        have HL2 := hid hl2
        clear HUP hg2
        have d1 : decide (max 0 n < ab2.used) = false := by simp; omega
        have d2 : decide (262144 < ab2.used) = false := by simp; omega
        have d3 : decide (ab2.peak < ab2.used) = false := by simp; omega
        have d4 : decide (ab2.peak < ab.peak) = false := by simp; omega
        go_wp2_with fail
        refine HO2.out.used.mono ?_
        rintro e w3 ⟨rfl, rfl⟩
        go_wp2_with fail
        refine HO2.out.used.mono ?_
        rintro e w3 ⟨rfl, rfl⟩
        go_wp2_with fail
        refine HO2.out.peak.mono ?_
        rintro e w3 ⟨rfl, rfl⟩
        go_wp2_with fail
        refine HO2.out.used.mono ?_
        rintro e w3 ⟨rfl, rfl⟩
        go_wp2_with fail
        refine HO2.out.peak.mono ?_
        rintro e w3 ⟨rfl, rfl⟩
        go_wp2_with fail
        refine HO2.out.peak.mono ?_
        rintro e w3 ⟨rfl, rfl⟩
        go_wp2_with fail
        refine (HO2.out.list HG2.out).mono ?_
        rintro e w4 ⟨p, lcap, rfl, hfl, ho4, hb4⟩
        have HFL := hid hfl
        have HO4 := hid ho4
        clear hfl ho4 hb4 HO2
        go_wp2_with fail
        have hs4 := HO4.out.sorted
        go_loopw [9, 10] (fun sm ii wx => ∃ j : Nat, j ≤ ab2.files.length ∧ sm = .int .i64 (total (ab2.files.take j)) ∧ ii = .int .i64 j ∧ Hid (FilesAt wx p ab2.files) ∧ Hid (One w0 (w0.heap.size + 1) ab2 wx)) (fun _ ii _ => ab2.files.length - (intOf ii).toNat)
        case atStart => exact ⟨0, by omega, rfl, rfl, HFL.out, HO4.out⟩
        case round =>
          obtain ⟨j, hj, rfl, rfl, HFX, HOX⟩ := hrel
          rcases Nat.lt_or_ge j ab2.files.length with hjl | hjg
          · obtain ⟨fb, rfl, hfb, hfc⟩ : ∃ b, p = some ⟨b, 0, none⟩ ∧ b < wr.heap.size ∧ ∀ i (h : i < ab2.files.length), CellsAt wr b (i * 3) (fcells ab2.files[i]) := by
              rcases HFX.out with h | h
              · rw [h] at hjl; cases hjl
              · exact h
            have hok := HG2.out.ok
            have htot := total_take ab2.files j hjl
            have htle := total_take_le ab2.files (j + 1)
            have hus := hok.used
            have hnm := HG2.out.names _ (List.getElem_mem hjl)
            have htx := ok_text hok (List.getElem_mem hjl)
            have hnl := nameOk_short hnm
            have HC0 := hid (hfc j hjl)
            have HP := hid (fun (h : 0 < j) => hfc (j - 1) (by omega))
            have HS := hid (fun (h : 0 < j) => List.pairwise_iff_getElem.1 hs4 (j - 1) j (by omega) hjl (by omega))
            obtain ⟨c0, c1, -⟩ := cells3 HC0.out
            clear hfc
            go_wp2_with fail
            have hfew := HG2.out.few
            have hj64 : (j : Int) ≤ 64 := by omega
            have hjI : (j : Int) < (ab2.files.length : Int) := by omega
            have hjJ : (j : Int) - 1 < (ab2.files.length : Int) := by omega
            rcases Nat.eq_zero_or_pos j with h0 | h0
            · have dk : decide (0 < j) = false := by simp; omega
              clear h0
              go_quiet ((go_at_call 26; refine Calls.quiet_of_same (RefName_ok _ _ hnm)))
              go_wp2_with fail
              case roundEnd =>
                refine ⟨⟨j + 1, hjl, by rw [htot]; rfl, rfl, HFX.out.below (below_drewN (Below.refl _ _) _), HOX.out.more (below_drewN (Below.refl _ _) _)⟩, ?_⟩
                show ab2.files.length - ((j : Int) + 1).toNat < ab2.files.length - (j : Int).toNat
                omega
            · have dk : decide ((0 : Int) < (j : Int)) = true := by simp; omega
              obtain ⟨p0, -, -⟩ := cells3 (HP.out h0)
              have hbs : Op.bytesLess ab2.files[j - 1].name ab2.files[j].name = true := (bytesLess_before _ _).trans (HS.out h0)
              have hj1 : (0 : Int) ≤ (j : Int) - 1 := by omega
              go_quiet ((go_at_call 26; refine Calls.quiet_of_same (RefName_ok _ _ hnm)))
              go_wp2_with fail
              case roundEnd =>
                refine ⟨⟨j + 1, hjl, by rw [htot]; rfl, rfl, HFX.out.below (below_drewN (Below.refl _ _) _), HOX.out.more (below_drewN (Below.refl _ _) _)⟩, ?_⟩
                show ab2.files.length - ((j : Int) + 1).toNat < ab2.files.length - (j : Int).toNat
                omega
          · obtain rfl : j = ab2.files.length := by omega
            have hok := HG2.out.ok
            have hus := hok.used
            have hfew := HG2.out.few
            rw [List.take_length]
            go_wp2_with fail
            refine HOX.out.used.mono ?_
            rintro e w5 ⟨rfl, rfl⟩
            go_wp2_with fail
            case roundEnd =>
              refine ⟨⟨k + 1, ab2, hlt, rfl, rfl, HOX.out, HG2.out, HL2.out⟩, ?_⟩
              show l.length - ((k : Int) + 1).toNat < l.length - (k : Int).toNat
              omega
      · obtain rfl : k = l.length := by omega
        go_wp2_with fail
        refine (awake_any _).mono ?_
        rintro e wz ⟨rfl, hbz⟩
        have HZ := hid (HX.out.below.trans (hbz.mono HX.out.below.size))
        clear hbz
        go_wp2_with fail
        go_ret
        exact ⟨rfl, HZ.out⟩
end Go.Proofs.Ytnncbbfbnccnbaa
