/- The law ResimShifts: its walk answers true. -/
import Derived.Test.YtnjcfggadeakpaaLaw11SZ
import Derived.BigQuiet
namespace Go.Proofs.Ytnjcfggadeakpaa
open Go.RowKit
attribute [local go_sem] gives givesUpon

theorem SrIs.later {m : Sim} {f : Int} {F E : Nat} (h : SrIs m f (some (F, E))) {i : Nat} (h1 : f ≤ i) (h2 : i ≤ F) : SrIs m i (some (F, E)) := by
  rcases h with ⟨-, h⟩ | ⟨h3, g, h4, h5, h6⟩
  · cases h
  · refine .inr ⟨h3, i, rfl, ?_, h6.later (by omega) h2⟩
    have h7 := h6.2.1
    have h8 := h6.2.2.1
    omega
theorem LgIs.shift {m m' : Sim} {d : Nat} (h : Before m m' d) {f : Nat} {b b' : Option Nat} (hb : LgIs m f b) (hb' : LgIs m' ((d : Int) + f) b') : b' = b.map (d + ·) := by
  have hL := h.L
  have hlen := h.len
  rcases hb with ⟨h1, rfl⟩ | ⟨h1, g, h2, h3, h4⟩ <;> rcases hb' with ⟨k1, rfl⟩ | ⟨k1, g', k2, k3, k4⟩
  · rfl
  · rw [hL] at k1
    rcases h1 with h1 | h1 | h1
    · exact absurd k1 h1
    · omega
    · omega
  · rw [hL] at k1
    rcases k1 with k1 | k1 | k1
    · exact absurd h1 k1
    · omega
    · omega
  · obtain rfl : f = g := by omega
    obtain rfl : g' = d + f := by omega
    exact k4.unique (h.long h4)
set_option maxRecDepth 100000 in
set_option maxHeartbeats 16000000 in
theorem LawShifts_any (w : World) (a : Option Addr) (c : Nat) (L : List Inst) (lines : Bool) (before str : ByteArray) (at_ d : Int) (h : InsAt w a L) (hf : ∀ k (h : k < L.length), L[k].set.wf) (hL : L.length ≤ 1048576) (hbl : before.size ≤ 1048576) (hs : str.size ≤ 1048576) :
    Calls Try.prog 6 #[.agg #[.slice a L.length c, .bool lines], .string before, .agg #[.string str, .int .i64 at_, .int .i64 d]] w fun e w' => e = .returned (.bool true) ∧ Below w.heap.size w w' := by
  have HBX : Hid (Row ((w.alloc (.cells #[.slice a L.length c, .bool lines] 24)).alloc (.cells #[.string str, .int .i64 at_, .int .i64 d] 33)) w.heap.size [.slice a L.length c, .bool lines] 24) := (Row.at w [.slice a L.length c, .bool lines] _).below (Grow.alloc _ _) (by simp)
  have HPX : Hid (Row ((w.alloc (.cells #[.slice a L.length c, .bool lines] 24)).alloc (.cells #[.string str, .int .i64 at_, .int .i64 d] 33)) (w.heap.size + 1) [.string str, .int .i64 at_, .int .i64 d] 33) := Row.new (by simp)
  have HB0 : Hid (Below w.heap.size w ((w.alloc (.cells #[.slice a L.length c, .bool lines] 24)).alloc (.cells #[.string str, .int .i64 at_, .int .i64 d] 33))) := (Grow.alloc w _).trans (Grow.alloc _ _)
  have HI1 : Hid (InsAt ((w.alloc (.cells #[.slice a L.length c, .bool lines] 24)).alloc (.cells #[.string str, .int .i64 at_, .int .i64 d] 33)) a L) := h.below HB0.out (Nat.le_refl _)
  have HF := hid hf
  have HFW := hid (fun (x : World) (s : ByteArray) (h : s.size ≤ 1048576) => few11_any x a c L lines s hL h)
  clear h hf
  go_enter Try.func6, Try.ntmps6
  go_upto_region 1 with fail
  generalize (w.alloc (.cells #[.slice a L.length c, .bool lines] 24)).alloc (.cells #[.string str, .int .i64 at_, .int .i64 d] 33) = w1 at *
  generalize hb1 : w.heap.size + 1 = b1 at HPX
  generalize hb0 : w.heap.size = b0 at HBX
  have HC := hid (fun (x : World) (hx : Grow w1.drew x) => (show x.cell? ⟨b1, 0, none⟩ = some (.string str) ∧ x.cell? ⟨b1, 1, none⟩ = some (.int .i64 at_) from by
    have h2 := HPX.out.below (show Below w1.heap.size w1 x from ⟨hx.os, hx.tape, hx.output, hx.size, hx.block⟩) HPX.out.lt
    exact ⟨h2.cell 0, h2.cell 1⟩))
  refine wp_region_inv 6 (Grow) (by kernel_rfl) (by kernel_rfl) (Grow.refl) (fun _ _ _ => Grow.trans) ?_
  simp only [fill, dstOf, Act.put, List.take_succ_cons, List.take_zero, List.getElem?_toArray, List.getElem?_cons_zero, List.getElem?_cons_succ, Option.bind_some, List.setIfInBounds_toArray, List.set_cons_zero, List.set_cons_succ]
  refine Plan.det 1 rfl (Grow.refl) ?_
  apply Exists.intro
  refine ⟨fun vs x hR hF K hK => ?_, ?_⟩
  · clear hF
    go_simp
    exact hK _ _ (Grow.refl _) rfl
  refine Plan.det 2 rfl (Grow.refl) ?_
  apply Exists.intro
  refine ⟨fun vs x hR hF K hK => ?_, ?_⟩
  · have f0 := hF 0 _ _ rfl rfl; have hc := HC.out x hR; clear hF
    go_simp
    exact hK _ _ (Grow.refl _) rfl
  refine Plan.det 3 rfl (Grow.refl) ?_
  apply Exists.intro
  refine ⟨fun vs x hR hF K hK => ?_, ?_⟩
  · clear hF
    go_simp
    exact hK _ _ (Grow.refl _) rfl
  refine Plan.det 4 rfl (Grow.refl) ?_
  apply Exists.intro
  refine ⟨fun vs x hR hF K hK => ?_, ?_⟩
  · have f2 := hF 0 _ _ rfl rfl; have hc := HC.out x hR; clear hF
    go_simp
    exact hK _ _ (Grow.refl _) rfl
  refine Plan.det 5 rfl (Grow.refl) ?_
  apply Exists.intro
  refine ⟨fun vs x hR hF K hK => ?_, ?_⟩
  · have f0 := hF 3 _ _ rfl rfl; have f1 := hF 2 _ _ rfl rfl; clear hF
    go_simp
    exact hK _ _ (Grow.refl _) rfl
  refine Plan.det 6 rfl (Grow.refl) ?_
  apply Exists.intro
  refine ⟨fun vs x hR hF K hK => ?_, ?_⟩
  · have f0 := hF 4 _ _ rfl rfl; have f1 := hF 3 _ _ rfl rfl; have f2 := hF 2 _ _ rfl rfl; have f3 := hF 1 _ _ rfl rfl; have f4 := hF 0 _ _ rfl rfl; clear hF
    go_simp
    exact hK _ _ (Grow.refl _) rfl
  refine Plan.nil (fun vs x hR hF => ?_)
  have f0 := hF 5 _ _ rfl; have f1 := hF 4 _ _ rfl; have f2 := hF 3 _ _ rfl; have f3 := hF 2 _ _ rfl; have f4 := hF 1 _ _ rfl; have f5 := hF 0 _ _ rfl
  clear hF
  simp only [f0, f1, f2, f3, f4, f5]
  clear f0 f1 f2 f3 f4 f5
  simp only [List.drop_succ_cons, List.drop_zero]
  have hbx : Below w1.heap.size w1 x := ⟨hR.os, hR.tape, hR.output, hR.size, hR.block⟩
  have HBX1 := hid (HBX.out.below hbx HBX.out.lt)
  have HI1x := hid (HI1.out.below hbx (Nat.le_refl _))
  have HB1 := hid (HB0.out.trans (hbx.mono HB0.out.size))
  clear HC hR hbx HB0 HI1 HBX HPX
  have HAW : Hid (∀ x, Below w.heap.size w x → Calls Try.prog 9 #[] x fun e w' => e = .returned (.bool true) ∧ Below w.heap.size w w') := fun x hx => (awake11_any x).mono fun e w' ⟨h1, h2⟩ => ⟨h1, hx.trans (h2.mono hx.size)⟩
  have q1 : x.cell? ⟨b0, 0, none⟩ = some (.slice a L.length c) ∧ x.cell? ⟨b0, 1, none⟩ = some (.bool lines) := ⟨HBX1.out.cell 0, HBX1.out.cell 1⟩
  go_wp2_with fail
  refine (HFW.out x before hbl).mono ?_
  rintro e w2 ⟨b, rfl, hb, hb2⟩
  have HBX2 := hid (HBX1.out.below hb2 HBX1.out.lt)
  have HI2 := hid (HI1x.out.below hb2 (Nat.le_refl _))
  have HB2 := hid (HB1.out.trans (hb2.mono HB1.out.size))
  have q2 : w2.cell? ⟨b0, 0, none⟩ = some (.slice a L.length c) ∧ w2.cell? ⟨b0, 1, none⟩ = some (.bool lines) := ⟨HBX2.out.cell 0, HBX2.out.cell 1⟩
  clear hb2 q1
  cases b with
  | false =>
    clear hb
    go_wp2_with fail
    refine (HAW.out w2 HB2.out).mono ?_
    rintro e w9 ⟨rfl, hb9⟩
    have HB9 := hid hb9
    clear hb9
    go_wp2_with fail
    all_goals (try go_ret)
    all_goals exact ⟨rfl, HB9.out⟩
  | true =>
  have HFB : Hid (isFew L before) := hb.1 rfl
  clear hb
  go_wp2_with fail
  refine (HFW.out w2 str hs).mono ?_
  rintro e w3 ⟨b, rfl, hb, hb3⟩
  have HBX3 := hid (HBX2.out.below hb3 HBX2.out.lt)
  have HI3 := hid (HI2.out.below hb3 (Nat.le_refl _))
  have HB3 := hid (HB2.out.trans (hb3.mono HB2.out.size))
  have q3 : w3.cell? ⟨b0, 0, none⟩ = some (.slice a L.length c) ∧ w3.cell? ⟨b0, 1, none⟩ = some (.bool lines) := ⟨HBX3.out.cell 0, HBX3.out.cell 1⟩
  clear hb3 q2 HFW
  cases b with
  | false =>
    clear hb
    go_wp2_with fail
    refine (HAW.out w3 HB3.out).mono ?_
    rintro e w9 ⟨rfl, hb9⟩
    have HB9 := hid hb9
    clear hb9
    go_wp2_with fail
    all_goals (try go_ret)
    all_goals exact ⟨rfl, HB9.out⟩
  | true =>
  have HFE : Hid (isFew L str) := hb.1 rfl
  have h24 : str.size ≤ 24 := HFE.out.2
  have h24b : before.size ≤ 24 := HFB.out.2
  clear hb
  rcases Int.lt_or_le at_ 0 with h0 | h0
  · go_wp2_with fail
    refine (HAW.out w3 HB3.out).mono ?_
    rintro e w9 ⟨rfl, hb9⟩
    have HB9 := hid hb9
    clear hb9
    go_wp2_with fail
    all_goals (try go_ret)
    all_goals exact ⟨rfl, HB9.out⟩
  have d0 : decide (at_ < 0) = false := by simpa using h0
  rcases Int.lt_or_le (str.size : Int) at_ with h1 | h1
  · go_wp2_with fail
    refine (HAW.out w3 HB3.out).mono ?_
    rintro e w9 ⟨rfl, hb9⟩
    have HB9 := hid hb9
    clear hb9
    go_wp2_with fail
    all_goals (try go_ret)
    all_goals exact ⟨rfl, HB9.out⟩
  have d1 : decide ((str.size : Int) < at_) = false := by simpa using h1
  obtain ⟨f, rfl⟩ := Int.eq_ofNat_of_zero_le h0
  have hfs : f ≤ str.size := by omega
  have HPR : Hid (∀ x, Below w3.heap.size w3 x → Pre x ⟨L, lines, str.data.toList⟩ a str) := fun x hx => Pre.of (HI3.out.below hx (Nat.le_refl _)) HF.out HFE.out
  have HS := hid (Search_any w3 ⟨L, lines, str.data.toList⟩ a c str f (HPR.out w3 (Below.refl _ _)))
  go_wp2_with fail
  refine HS.out.mono ?_
  intro e w4 h4
  obtain ⟨hb4, bs, hbs, rfl⟩ := h4.val
  have HBS := hid hbs
  have HB34 := hid hb4
  clear hb4 h4 hbs HS q3
  have HR5 : Hid (Row (w4.alloc (.cells #[.int .i64 (bs.getD (0, 0)).1, .int .i64 (bs.getD (0, 0)).2] 28)) w4.heap.size [.int .i64 (bs.getD (0, 0)).1, .int .i64 (bs.getD (0, 0)).2] 28) := Row.at w4 [.int .i64 (bs.getD (0, 0)).1, .int .i64 (bs.getD (0, 0)).2] _
  have HA5 : Hid (Below w4.heap.size w4 (w4.alloc (.cells #[.int .i64 (bs.getD (0, 0)).1, .int .i64 (bs.getD (0, 0)).2] 28))) := Grow.alloc w4 _
  go_upto_region 5 with fail
  generalize w4.alloc (.cells #[.int .i64 (bs.getD (0, 0)).1, .int .i64 (bs.getD (0, 0)).2] 28) = w5 at *
  have HB5 := hid (HB34.out.trans (HA5.out.mono HB34.out.size))
  generalize w4.heap.size = p1 at *
  have HP1L := hid HR5.out.lt
  have HBX5 := hid (HBX3.out.below HB5.out HBX3.out.lt)
  have HBXL := hid HBX5.out.lt
  go_wp2_with fail
  go_loopw [11] (fun vi wr => ∃ i : Nat, f ≤ i ∧ vi = .int .i64 i ∧ (∀ F E, bs = some (F, E) → i ≤ F + 1) ∧ Hid (Below w5.heap.size w5 wr)) (fun vi _ => (bs.getD (0, 0)).1 + 1 - (intOf vi).toNat)
  case atStart =>
    refine ⟨f, Nat.le_refl _, rfl, fun F E he => ?_, Below.refl _ _⟩
    subst he
    rcases HBS.out with ⟨-, h⟩ | ⟨-, g, h2, -, h4⟩
    · cases h
    · have := h4.1; omega
  case round =>
    obtain ⟨i, hfi, rfl, hiF, HW⟩ := hrel
    match bs, HBS, HR5, hiF with
    | none, HBS, HR5, hiF =>
      go_wp2_with fail
      go_loopw [14] (fun vk wx => ∃ k : Nat, k ≤ L.length ∧ vk = .int .i64 k ∧ Hid (∀ j (h : j < L.length), j < k → L[j].op ≠ 4) ∧ Hid (Below w5.heap.size w5 wx)) (fun vk _ => L.length - (intOf vk).toNat)
      case atStart => exact ⟨0, by omega, rfl, (fun j h hj => absurd hj (by omega)), HW.out⟩
      case round =>
        obtain ⟨k, hk, rfl, HNO, HW2⟩ := hrel
        have HB3w := hid (HB5.out.trans (HW2.out.mono HB5.out.size))
        have HBXw := hid (HBX5.out.below HW2.out HBXL.out)
        have qw : wr.cell? ⟨b0, 0, none⟩ = some (.slice a L.length c) ∧ wr.cell? ⟨b0, 1, none⟩ = some (.bool lines) := ⟨HBXw.out.cell 0, HBXw.out.cell 1⟩
        have HBw := hid (HB3.out.trans (HB3w.out.mono HB3.out.size))
        rcases Nat.lt_or_ge k L.length with hkl | hkg
        · obtain ⟨fb, fo, hfa, hfb, hfc⟩ := (HI3.out.below HB3w.out (Nat.le_refl _)).at hkl
          subst hfa
          have HST : Hid (L[k].op ≠ 4 → ∀ j (h : j < L.length), j < k + 1 → L[j].op ≠ 4) := by
            intro h1 j h hj
            rcases Nat.lt_or_ge j k with h2 | h2
            · exact HNO.out j h h2
            · obtain rfl : j = k := by omega
              exact h1
          generalize L[k] = ff at *
          obtain ⟨fop, fset, fx, fy⟩ := ff
          have qi := (cells7 (show CellsAt wr fb (fo + k * 7) [.int .i64 fop, .int .u64 fset.a, .int .u64 fset.b, .int .u64 fset.c, .int .u64 fset.d, .int .i64 fx, .int .i64 fy] from hfc)).1
          have hkI : (k : Int) < (L.length : Int) := by omega
          clear hfc
          by_cases hop : fop = 4
          · subst hop
            go_wp2_with fail
            refine (HAW.out _ HBw.out).mono ?_
            rintro e w9 ⟨rfl, hb9⟩
            have HB9 := hid hb9
            clear hb9
            go_wp2_with fail
            all_goals (try go_ret)
            all_goals exact ⟨rfl, HB9.out⟩
          · have d4 : (fop == 4) = false := by simpa using hop
            have HST2 := hid (HST.out hop)
            go_wp2_with fail
            all_goals
              refine ⟨⟨k + 1, hkl, rfl, HST2.out, HW2.out⟩, ?_⟩
              show L.length - ((k : Int) + 1).toNat < L.length - (k : Int).toNat
              omega
        · obtain rfl : k = L.length := by omega
          have HBF : Hid (Before ⟨L, lines, str.data.toList⟩ ⟨L, lines, before.data.toList ++ str.data.toList⟩ before.data.toList.length) := before_of (fun j h => HNO.out j h h)
          have HLG := hid (Longest_any wr ⟨L, lines, str.data.toList⟩ a c str f (HPR.out wr HB3w.out))
          go_wp2_with fail
          refine HLG.out.mono ?_
          intro e w6 h6
          obtain ⟨hb6, b1, hbl1, rfl⟩ := h6.val
          have HL1 := hid hbl1
          have HBX6 := hid (HBXw.out.below hb6 HBXw.out.lt)
          have HI6 := hid (HI3.out.below (HB3w.out.trans (hb6.mono HB3w.out.size)) (Nat.le_refl _))
          have HB6 := hid (HBw.out.trans (hb6.mono HBw.out.size))
          have q6 : w6.cell? ⟨b0, 0, none⟩ = some (.slice a L.length c) ∧ w6.cell? ⟨b0, 1, none⟩ = some (.bool lines) := ⟨HBX6.out.cell 0, HBX6.out.cell 1⟩
          clear hb6 h6 hbl1 HLG qw
          have happ : (before ++ str).data.toList = before.data.toList ++ str.data.toList := by rw [ByteArray.data_append, Array.toList_append]
          have hsza : (before ++ str).size = before.size + str.size := by rw [ByteArray.size_append]
          have hszb : before.data.toList.length = before.size := by rw [Array.length_toList]; rfl
          have HLH : Hid (Calls Try.prog 15 #[.agg #[.slice a L.length c, .bool lines], .string (before ++ str), .int .i64 ((before.size : Int) + f)] w6 (LgPost ⟨L, lines, before.data.toList ++ str.data.toList⟩ w6 ((before.size : Int) + f))) := Longest_any w6 ⟨L, lines, before.data.toList ++ str.data.toList⟩ a c (before ++ str) ((before.size : Int) + f) ⟨HI6.out, HF.out, happ.symm, by omega, by have := HFE.out.1; show L.length ≤ _; omega⟩
          go_wp2_with fail
          refine HLH.out.mono ?_
          intro e w7 h7
          obtain ⟨hb7, b2, hbl2, rfl⟩ := h7.val
          obtain rfl : b2 = b1.map (before.size + ·) := by
            have h := LgIs.shift HBF.out HL1.out (b' := b2) (by rw [hszb]; exact hbl2)
            rw [hszb] at h
            exact h
          have HB7 := hid (HB6.out.trans (hb7.mono HB6.out.size))
          have hEb : ∀ E, b1 = some E → E ≤ 24 := by
            intro E he
            subst he
            rcases HL1.out with ⟨-, h⟩ | ⟨-, g, -, -, h⟩
            · cases h
            · have h1 := h.2.1
              have h2 : (Sim.mk L lines str.data.toList).s.length = str.size := by show str.data.toList.length = _; rw [Array.length_toList]; rfl
              omega
          clear hb7 h7 hbl2 HLH q6 happ hsza hszb HL1 HBF
          cases b1 with
          | none =>
            go_wp2_with fail
            refine (HAW.out _ HB7.out).mono ?_
            rintro e w9 ⟨rfl, hb9⟩
            have HB9 := hid hb9
            clear hb9
            go_wp2_with fail
            all_goals (try go_ret)
            all_goals exact ⟨rfl, HB9.out⟩
          | some E1 =>
            have hE1 : E1 ≤ 24 := hEb E1 rfl
            have hq : (((before.size + E1 : Nat) : Int) == (E1 : Int) + (before.size : Int)) = true := beq_iff_eq.2 (by omega)
            have hq2 : (before.size : Int) + (E1 : Int) = (E1 : Int) + (before.size : Int) := by omega
            go_wp2_with fail
            refine (HAW.out _ HB7.out).mono ?_
            rintro e w9 ⟨rfl, hb9⟩
            have HB9 := hid hb9
            clear hb9
            go_wp2_with fail
            all_goals (try go_ret)
            all_goals exact ⟨rfl, HB9.out⟩
    | some (F, E), HBS, HR5, hiF =>
      have hFE : F ≤ 24 ∧ E ≤ 24 := by
        rcases HBS.out with ⟨-, h⟩ | ⟨-, g, -, -, h⟩
        · cases h
        · have h1 := h.2.1
          have h3 := h.2.2.1
          have h2 : (Sim.mk L lines str.data.toList).s.length = str.size := by show str.data.toList.length = _; rw [Array.length_toList]; rfl
          omega
      have hR6 : Row wr p1 [.int .i64 F, .int .i64 E] 28 := HR5.out.below HW.out HP1L.out
      have q6s : wr.cell? ⟨p1, 0, none⟩ = some (.int .i64 F) ∧ wr.cell? ⟨p1, 1, none⟩ = some (.int .i64 E) := ⟨hR6.cell 0, hR6.cell 1⟩
      have hi1 := hiF F E rfl
      rcases Nat.lt_or_ge F i with hex | hgo
      · have dex : decide ((i : Int) ≤ (F : Int)) = false := by simp; omega
        go_wp2_with fail
        clear q6s dex
        go_loopw [14] (fun vk wx => ∃ k : Nat, k ≤ L.length ∧ vk = .int .i64 k ∧ Hid (∀ j (h : j < L.length), j < k → L[j].op ≠ 4) ∧ Hid (Below w5.heap.size w5 wx)) (fun vk _ => L.length - (intOf vk).toNat)
        case atStart => exact ⟨0, by omega, rfl, (fun j h hj => absurd hj (by omega)), HW.out⟩
        case round =>
          obtain ⟨k, hk, rfl, HNO, HW2⟩ := hrel
          have HB3w := hid (HB5.out.trans (HW2.out.mono HB5.out.size))
          have HBXw := hid (HBX5.out.below HW2.out HBXL.out)
          have qw : wr.cell? ⟨b0, 0, none⟩ = some (.slice a L.length c) ∧ wr.cell? ⟨b0, 1, none⟩ = some (.bool lines) := ⟨HBXw.out.cell 0, HBXw.out.cell 1⟩
          have HBw := hid (HB3.out.trans (HB3w.out.mono HB3.out.size))
          rcases Nat.lt_or_ge k L.length with hkl | hkg
          · obtain ⟨fb, fo, hfa, hfb, hfc⟩ := (HI3.out.below HB3w.out (Nat.le_refl _)).at hkl
            subst hfa
            have HST : Hid (L[k].op ≠ 4 → ∀ j (h : j < L.length), j < k + 1 → L[j].op ≠ 4) := by
              intro h1 j h hj
              rcases Nat.lt_or_ge j k with h2 | h2
              · exact HNO.out j h h2
              · obtain rfl : j = k := by omega
                exact h1
            generalize L[k] = ff at *
            obtain ⟨fop, fset, fx, fy⟩ := ff
            have qi := (cells7 (show CellsAt wr fb (fo + k * 7) [.int .i64 fop, .int .u64 fset.a, .int .u64 fset.b, .int .u64 fset.c, .int .u64 fset.d, .int .i64 fx, .int .i64 fy] from hfc)).1
            have hkI : (k : Int) < (L.length : Int) := by omega
            clear hfc
            by_cases hop : fop = 4
            · subst hop
              go_wp2_with fail
              refine (HAW.out _ HBw.out).mono ?_
              rintro e w9 ⟨rfl, hb9⟩
              have HB9 := hid hb9
              clear hb9
              go_wp2_with fail
              all_goals (try go_ret)
              all_goals exact ⟨rfl, HB9.out⟩
            · have d4 : (fop == 4) = false := by simpa using hop
              have HST2 := hid (HST.out hop)
              go_wp2_with fail
              all_goals
                refine ⟨⟨k + 1, hkl, rfl, HST2.out, HW2.out⟩, ?_⟩
                show L.length - ((k : Int) + 1).toNat < L.length - (k : Int).toNat
                omega
          · obtain rfl : k = L.length := by omega
            have HBF : Hid (Before ⟨L, lines, str.data.toList⟩ ⟨L, lines, before.data.toList ++ str.data.toList⟩ before.data.toList.length) := before_of (fun j h => HNO.out j h h)
            have HLG := hid (Longest_any wr ⟨L, lines, str.data.toList⟩ a c str f (HPR.out wr HB3w.out))
            go_wp2_with fail
            refine HLG.out.mono ?_
            intro e w6 h6
            obtain ⟨hb6, b1, hbl1, rfl⟩ := h6.val
            have HL1 := hid hbl1
            have HBX6 := hid (HBXw.out.below hb6 HBXw.out.lt)
            have HI6 := hid (HI3.out.below (HB3w.out.trans (hb6.mono HB3w.out.size)) (Nat.le_refl _))
            have HB6 := hid (HBw.out.trans (hb6.mono HBw.out.size))
            have q6 : w6.cell? ⟨b0, 0, none⟩ = some (.slice a L.length c) ∧ w6.cell? ⟨b0, 1, none⟩ = some (.bool lines) := ⟨HBX6.out.cell 0, HBX6.out.cell 1⟩
            clear hb6 h6 hbl1 HLG qw
            have happ : (before ++ str).data.toList = before.data.toList ++ str.data.toList := by rw [ByteArray.data_append, Array.toList_append]
            have hsza : (before ++ str).size = before.size + str.size := by rw [ByteArray.size_append]
            have hszb : before.data.toList.length = before.size := by rw [Array.length_toList]; rfl
            have HLH : Hid (Calls Try.prog 15 #[.agg #[.slice a L.length c, .bool lines], .string (before ++ str), .int .i64 ((before.size : Int) + f)] w6 (LgPost ⟨L, lines, before.data.toList ++ str.data.toList⟩ w6 ((before.size : Int) + f))) := Longest_any w6 ⟨L, lines, before.data.toList ++ str.data.toList⟩ a c (before ++ str) ((before.size : Int) + f) ⟨HI6.out, HF.out, happ.symm, by omega, by have := HFE.out.1; show L.length ≤ _; omega⟩
            go_wp2_with fail
            refine HLH.out.mono ?_
            intro e w7 h7
            obtain ⟨hb7, b2, hbl2, rfl⟩ := h7.val
            obtain rfl : b2 = b1.map (before.size + ·) := by
              have h := LgIs.shift HBF.out HL1.out (b' := b2) (by rw [hszb]; exact hbl2)
              rw [hszb] at h
              exact h
            have HB7 := hid (HB6.out.trans (hb7.mono HB6.out.size))
            have hEb : ∀ E, b1 = some E → E ≤ 24 := by
              intro E he
              subst he
              rcases HL1.out with ⟨-, h⟩ | ⟨-, g, -, -, h⟩
              · cases h
              · have h1 := h.2.1
                have h2 : (Sim.mk L lines str.data.toList).s.length = str.size := by show str.data.toList.length = _; rw [Array.length_toList]; rfl
                omega
            clear hb7 h7 hbl2 HLH q6 happ hsza hszb HL1 HBF
            cases b1 with
            | none =>
              go_wp2_with fail
              refine (HAW.out _ HB7.out).mono ?_
              rintro e w9 ⟨rfl, hb9⟩
              have HB9 := hid hb9
              clear hb9
              go_wp2_with fail
              all_goals (try go_ret)
              all_goals exact ⟨rfl, HB9.out⟩
            | some E1 =>
              have hE1 : E1 ≤ 24 := hEb E1 rfl
              have hq : (((before.size + E1 : Nat) : Int) == (E1 : Int) + (before.size : Int)) = true := beq_iff_eq.2 (by omega)
              have hq2 : (before.size : Int) + (E1 : Int) = (E1 : Int) + (before.size : Int) := by omega
              go_wp2_with fail
              refine (HAW.out _ HB7.out).mono ?_
              rintro e w9 ⟨rfl, hb9⟩
              have HB9 := hid hb9
              clear hb9
              go_wp2_with fail
              all_goals (try go_ret)
              all_goals exact ⟨rfl, HB9.out⟩
      · have dgo : decide ((i : Int) ≤ (F : Int)) = true := by simp; omega
        have HB3x := hid (HB5.out.trans (HW.out.mono HB5.out.size))
        have HBXx := hid (HBX5.out.below HW.out HBXL.out)
        have qx : wr.cell? ⟨b0, 0, none⟩ = some (.slice a L.length c) ∧ wr.cell? ⟨b0, 1, none⟩ = some (.bool lines) := ⟨HBXx.out.cell 0, HBXx.out.cell 1⟩
        have HSX := hid (Search_any wr ⟨L, lines, str.data.toList⟩ a c str i (HPR.out wr HB3x.out))
        have HR6 := hid hR6
        clear hR6
        go_wp2_with fail
        refine HSX.out.mono ?_
        intro e w6 h6
        obtain ⟨hb6, b', hb', rfl⟩ := h6.val
        obtain rfl : b' = some (F, E) := hb'.unique (HBS.out.later (by omega) hgo)
        have HW6 := hid (HW.out.trans (hb6.mono HW.out.size))
        have HR7 := hid (HR6.out.below hb6 HR6.out.lt)
        clear hb6 h6 hb' HSX qx q6s
        have HR8 : Hid (Row (w6.alloc (.cells #[.int .i64 F, .int .i64 E] 28)) w6.heap.size [.int .i64 F, .int .i64 E] 28) := Row.at w6 [.int .i64 F, .int .i64 E] _
        have HA8 : Hid (Below w6.heap.size w6 (w6.alloc (.cells #[.int .i64 F, .int .i64 E] 28))) := Grow.alloc w6 _
        go_upto_region 9 with fail
        generalize w6.alloc (.cells #[.int .i64 F, .int .i64 E] 28) = w8 at *
        have HW8 := hid (HW6.out.trans (HA8.out.mono HW6.out.size))
        have HR78 := hid (HR7.out.below HA8.out HR7.out.lt)
        generalize w6.heap.size = p2 at *
        have qa : w8.cell? ⟨p1, 0, none⟩ = some (.int .i64 F) ∧ w8.cell? ⟨p1, 1, none⟩ = some (.int .i64 E) := ⟨HR78.out.cell 0, HR78.out.cell 1⟩
        have qb : w8.cell? ⟨p2, 0, none⟩ = some (.int .i64 F) ∧ w8.cell? ⟨p2, 1, none⟩ = some (.int .i64 E) := ⟨HR8.out.cell 0, HR8.out.cell 1⟩
        go_wp2_with fail
        go_roundw
        case rel =>
          refine ⟨_, _, _, _, _, _, _, _, _, _, _, _, _, _, _, _, _, _, _, _, _, _, _, _, _, _, _, ⟨i + 1, ?_, rfl, ?_, HW8.out⟩, rfl⟩
          · omega
          · first
              | omega
              | (intro F' E' he; injection he with he; injection he with h1 h2; omega)
        case measure =>
          show ((F : Nat) + 1) - ((i : Int) + 1).toNat < ((F : Nat) + 1) - (i : Int).toNat
          omega
end Go.Proofs.Ytnjcfggadeakpaa
