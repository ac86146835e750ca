/- The law's maker: make gives only strings that the facts allow. -/
import Derived.Test.YtibfnmkeghkdpaaMaker3
import Derived.Test.YtibfnmkeghkdpaaPass
import Derived.Deep.RegionWith
namespace Go.Proofs.Ytibfnmkeghkdpaa
open Go.RowKit
attribute [local go_sem] gives givesUpon

theorem MAt.dec {Z : MK} {wb w : World} {l : Int} (l' : Int) (h : MAt Z w l) (hz : Z.ok wb) : MAt Z (w.setCell ⟨Z.mb, 4, none⟩ (.int .i64 l')) l' := by
  obtain ⟨a, ts, gs, r1, r2, r3, r4, r5⟩ := h
  exact ⟨a, ts, gs, r1.set 4 _, r2, r3.other (Ne.symm hz.mt) _ _, r4.other (Ne.symm hz.mg) _ _, r5⟩
theorem fac_two {p : Pay} {xs : List Re} {G : Int → Option Facts} (h : p.op = 2) : (Re.mk p xs).fac G = ⟨false, 1, 1, p.set⟩ := by rw [Re.fac]; unfold Pay.learn; rw [if_pos h]
theorem fac_three {p : Pay} {xs : List Re} {G : Int → Option Facts} (h : p.op = 3) : (Re.mk p xs).fac G = Facts.cats (xs.map (Re.fac G)) := by rw [Re.fac, Re.facs_map]; unfold Pay.learn; rw [if_neg (by omega), if_pos h]
theorem fac_four {p : Pay} {xs : List Re} {G : Int → Option Facts} (h : p.op = 4) : (Re.mk p xs).fac G = Facts.alts (xs.map (Re.fac G)) := by rw [Re.fac, Re.facs_map]; unfold Pay.learn; rw [if_neg (by omega), if_neg (by omega), if_pos h]
theorem fac_five {p : Pay} {x : Re} {G : Int → Option Facts} (h : p.op = 5) : (Re.mk p [x]).fac G = (x.fac G).rep p.lo p.hi := by rw [Re.fac, Re.facs_map]; unfold Pay.learn; rw [if_neg (by omega), if_neg (by omega), if_neg (by omega), if_pos h]; rfl
theorem fac_six {p : Pay} {x : Re} {G : Int → Option Facts} (h : p.op = 6) : (Re.mk p [x]).fac G = x.fac G := by rw [Re.fac, Re.facs_map]; unfold Pay.learn; rw [if_neg (by omega), if_neg (by omega), if_neg (by omega), if_neg (by omega), if_pos h]; rfl
theorem fac_nine {p : Pay} {xs : List Re} {G : Int → Option Facts} (h : p.op = 9) : (Re.mk p xs).fac G = (G p.gr).getD Facts.zero := by rw [Re.fac]; unfold Pay.learn; rw [if_neg (by omega), if_neg (by omega), if_neg (by omega), if_neg (by omega), if_neg (by omega), if_pos h]
theorem fac_rest {p : Pay} {xs : List Re} {G : Int → Option Facts} (h2 : ¬ p.op = 2) (h3 : ¬ p.op = 3) (h4 : ¬ p.op = 4) (h5 : ¬ p.op = 5) (h6 : ¬ p.op = 6) (h9 : ¬ p.op = 9) : (Re.mk p xs).fac G = Facts.empty := by rw [Re.fac]; unfold Pay.learn; rw [if_neg h2, if_neg h3, if_neg h4, if_neg h5, if_neg h6, if_neg h9]
/-- A byte of the string of a set's bytes is in the set. -/
theorem str_has (s : Cs) (r : Nat) (h : r < s.str.size) : ∃ c : UInt8, (s.str.extract r (r + 1)).data.toList = [c] ∧ s.has c.toNat = true := by
  have hl : (s.nums 256).length = s.str.size := (strOfNums_size _).symm
  have hr : r < (s.nums 256).length := by omega
  have hmem : (s.nums 256)[r] ∈ s.nums 256 := List.getElem_mem hr
  unfold Cs.nums at hmem
  obtain ⟨c, hc, he⟩ := List.mem_map.1 hmem
  obtain ⟨hc1, hc2⟩ := List.mem_filter.1 hc
  have hc3 : c < 256 := List.mem_range.1 hc1
  refine ⟨UInt8.ofNat c, ?_, ?_⟩
  · have hd : s.str.data.toList = (s.nums 256).map fun n => UInt8.ofNat n.toNat := strOfNums_data _
    have e1 : (s.str.extract r (r + 1)).data.toList = (s.str.data.toList.drop r).take 1 := by
      rw [ByteArray.data_extract, Array.toList_extract]
      simp [List.extract]
    rw [e1, hd, List.drop_eq_getElem_cons (by simpa using hr), List.take_succ_cons, List.take_zero, List.getElem_map]
    have : (s.nums 256)[r] = (c : Int) := he.symm
    rw [this]
    rfl
  · have e2 : (UInt8.ofNat c).toNat = c := by simp; omega
    rw [e2]; exact hc2

theorem str_pos {s : Cs} (hs : s.wf) (hn : ¬ s = Cs.none) : 0 < s.str.size := by
  have hl : (s.nums 256).length = s.str.size := (strOfNums_size _).symm
  rcases Nat.eq_zero_or_pos (s.nums 256).length with h | h
  · exfalso
    apply hn
    refine Cs.ext_has hs Cs.none_wf fun c hc => ?_
    rw [Cs.has_none]
    cases hh : s.has c with
    | false => rfl
    | true =>
      have : (c : Int) ∈ s.nums 256 := by
        unfold Cs.nums
        exact List.mem_map.2 ⟨c, List.mem_filter.2 ⟨List.mem_range.2 hc, hh⟩, rfl⟩
      have h0 := List.length_pos_of_mem this
      omega
  · omega
theorem Re.set_some {p : Pay} {xs : List Re} (h : (Re.mk p xs).typed = true) (hop : p.op = 2) : ¬ p.set = Cs.none := by
  rw [Re.typed] at h
  simp only [Bool.and_eq_true] at h
  have h1 := h.1
  unfold Pay.shaped at h1
  simp [hop] at h1
  exact h1.2
theorem Re.kids_two {p : Pay} {xs : List Re} (h : (Re.mk p xs).typed = true) (hop : p.op = 3 ∨ p.op = 4) : 2 ≤ xs.length := by
  rw [Re.typed] at h
  simp only [Bool.and_eq_true] at h
  have h1 := h.1
  unfold Pay.shaped at h1
  rcases hop with o | o <;> simp [o] at h1 <;> omega
theorem Re.kids_one {p : Pay} {xs : List Re} (h : (Re.mk p xs).typed = true) (hop : p.op = 6) : ∃ x, xs = [x] := by
  have hl : xs.length = 1 := by
    rw [Re.typed] at h
    simp only [Bool.and_eq_true] at h
    have h1 := h.1
    unfold Pay.shaped at h1
    simp [hop] at h1
    omega
  match xs, hl with
  | [x], _ => exact ⟨x, rfl⟩

theorem CellsAt.c9 {w : World} {b o : Nat} {c0 c1 c2 c3 c4 c5 c6 c7 c8 : Value} (h : CellsAt w b o [c0, c1, c2, c3, c4, c5, c6, c7, c8]) : w.cell? ⟨b, o, none⟩ = some c0 ∧ w.cell? ⟨b, o + 1, none⟩ = some c1 ∧ w.cell? ⟨b, o + 2, none⟩ = some c2 ∧ w.cell? ⟨b, o + 3, none⟩ = some c3 ∧ w.cell? ⟨b, o + 4, none⟩ = some c4 ∧ w.cell? ⟨b, o + 5, none⟩ = some c5 ∧ w.cell? ⟨b, o + 6, none⟩ = some c6 ∧ w.cell? ⟨b, o + 7, none⟩ = some c7 ∧ w.cell? ⟨b, o + 8, none⟩ = some c8 :=
  ⟨h 0 _ rfl, h 1 _ rfl, h 2 _ rfl, h 3 _ rfl, h 4 _ rfl, h 5 _ rfl, h 6 _ rfl, h 7 _ rfl, h 8 _ rfl⟩

set_option maxRecDepth 100000 in
set_option maxHeartbeats 8000000 in
theorem make_any {Z : MK} {wb : World} (hz : Z.ok wb) (t : Re) : ∀ (w : World) (cs : List Value) (left : Int), t.In wb cs → Below wb.heap.size wb w → MAt Z w left → 0 ≤ left → left ≤ 600 → t.typed = true → t.okr = true → t.inR Z.nn = true → t.okG Z.G → t.size ≤ 1048576 →
    Calls Try.prog 28 #[.pointer (some ⟨Z.mb, 0, none⟩), .agg cs.toArray] w (MPost Z w (t.fac Z.G) left) := by
  induction t using Re.ind with
  | h p xs ih =>
    intro w cs left hIn hbw hM hl0 hl6 hty hok hir hoG hsz
    have hIn0 := hIn
    rw [Re.In] at hIn
    obtain ⟨ad, cap, rfl, hwf, hlc, hcm, hnil, hall⟩ := hIn
    rw [Re.size_mk] at hsz
    have hlen := Re.sizes_len xs
    have HAL := hid hall
    have HIN0 := hid hIn0
    have HBW := hid hbw
    have HM := hid hM
    have HZ := hid hz
    have HWF := hid hwf
    have HTY := hid hty
    have HIN : Hid (∀ (k : Nat) (hk : k < xs.length) (w : World) (cs : List Value) (left : Int), xs[k].In wb cs → Below wb.heap.size wb w → MAt Z w left → 0 ≤ left → left ≤ 600 → Calls Try.prog 28 #[.pointer (some ⟨Z.mb, 0, none⟩), .agg cs.toArray] w (MPost Z w (xs[k].fac Z.G) left)) := fun k hk w cs left h1 h2 h3 h4 h5 => by
      have hsg := Re.size_get (xs := xs) (i := k) (a := xs[k]) (by simp [hk])
      rw [Re.okr, Bool.and_eq_true] at hok
      rw [Re.inR, Bool.and_eq_true] at hir
      rw [Re.okG] at hoG
      exact ih xs[k] (by simp) w cs left h1 h2 h3 h4 h5 (Re.typed_kid hty k hk) (Re.okrs_get xs hok.2 k hk) (Re.inRs_get xs hir.2 k hk) (Re.okGs_get xs hoG.2 k hk) (by omega)
    have HLST : Hid (∀ k (hk : k < xs.length), 0 ≤ (xs[k].fac Z.G).least) := fun k hk => by
      rw [Re.okr, Bool.and_eq_true] at hok
      exact Re.fac_least hz.gok.least xs[k] (Re.okrs_get xs hok.2 k hk)
    have HLEN : Hid (∀ k (hk : k < xs.length), FLen (xs[k].fac Z.G)) := fun k hk => Re.fac_len hz.gok.len xs[k]
    have HBAD : Hid (p.op = 5 → p.badRep = false) := by
      rw [Re.okr, Bool.and_eq_true, decide_eq_true_eq] at hok
      exact hok.1
    have HGR : Hid (p.op = 6 ∨ p.op = 9 → 1 ≤ p.gr ∧ p.gr ≤ Z.nn) := by
      rw [Re.inR, Bool.and_eq_true, decide_eq_true_eq] at hir
      exact hir.1
    have HG6 : Hid (p.op = 6 → Z.G p.gr = some ((Re.facs Z.G xs).headD Facts.zero)) := by
      rw [Re.okG] at hoG
      exact hoG.1
    have hmlt := hM.lt
    have hM0 := hM
    obtain ⟨a, ts, gs, r1, -⟩ := hM0
    unfold MK.row at r1
    have HR1 := hid r1
    have HMT := hid (And.intro hz.mt (And.intro hz.mg hz.tg))
    have HGE := hid (And.intro hz.m (And.intro hz.t hz.g))
    have q0 := HR1.out.c5
    have z0 := HR1.out.lt
    obtain ⟨hm1, hm2, hm3⟩ := hmlt
    clear ih hall hwf hbw hM hty hok hir hoG r1 hz hIn0
    simp only [Pay.cells]
    go_enter Try.func28, Try.ntmps28
    go_upto_region 2 with fail
    have hal := (Below.refl (w.setCell ⟨Z.mb, 4, none⟩ (.int .i64 (left - 1))).heap.size (w.setCell ⟨Z.mb, 4, none⟩ (.int .i64 (left - 1)))).alloc (Nat.le_refl _) (.cells #[.int .i64 p.op, .int .u64 p.set.a, .int .u64 p.set.b, .int .u64 p.set.c, .int .u64 p.set.d, .int .i64 p.lo, .int .i64 p.hi, .int .i64 p.gr, .slice ad xs.length cap] 28)
    have HMY := hid ((HM.out.dec (left - 1) HZ.out).below hal)
    have HROW := hid (Row.new (w := w.setCell ⟨Z.mb, 4, none⟩ (.int .i64 (left - 1))) (B := w.heap.size) (cs := [.int .i64 p.op, .int .u64 p.set.a, .int .u64 p.set.b, .int .u64 p.set.c, .int .u64 p.set.d, .int .i64 p.lo, .int .i64 p.hi, .int .i64 p.gr, .slice ad xs.length cap]) (T := 28) (by simp))
    have HBUT := hid (((But.refl [Z.mb, Z.tb, Z.gb] w).setCell (p := ⟨Z.mb, 4, none⟩) (.inl (by simp)) (.int .i64 (left - 1))).alloc (.cells #[.int .i64 p.op, .int .u64 p.set.a, .int .u64 p.set.b, .int .u64 p.set.c, .int .u64 p.set.d, .int .i64 p.lo, .int .i64 p.hi, .int .i64 p.gr, .slice ad xs.length cap] 28))
    have HR2 := hid ((HR1.out.set 4 (.int .i64 (left - 1))).alloc (.cells #[.int .i64 p.op, .int .u64 p.set.a, .int .u64 p.set.b, .int .u64 p.set.c, .int .u64 p.set.d, .int .i64 p.lo, .int .i64 p.hi, .int .i64 p.gr, .slice ad xs.length cap] 28))
    clear hal
    generalize (w.setCell ⟨Z.mb, 4, none⟩ (.int .i64 (left - 1))).alloc (.cells #[.int .i64 p.op, .int .u64 p.set.a, .int .u64 p.set.b, .int .u64 p.set.c, .int .u64 p.set.d, .int .i64 p.lo, .int .i64 p.hi, .int .i64 p.gr, .slice ad xs.length cap] 28) = y at *
    have HB : Hid (Below wb.heap.size wb y) := HBW.out.trans (HBUT.out.below (n := wb.heap.size) HBW.out.size (fun j hj => by
      simp only [List.mem_cons, List.not_mem_nil, or_false] at hj
      have h := HGE.out
      omega))
    have q1 := HROW.out.c9
    have z1 := HROW.out.lt
    have q2 : (y.cell? ⟨Z.mb, 4, none⟩ = some (.int .i64 (left - 1))) ∧ y.frozen? ⟨Z.mb, 4, none⟩ = false := ⟨HR2.out.cell 4, HR2.out.free 4⟩
    clear HR1 HR2 q0 z0
    have HLL : Hid (left = (left - 1) + 1) := by show left = _; omega
    generalize left - 1 = l1 at *
    rcases (show decide (l1 < 0) = true ∨ decide (l1 < 0) = false by cases decide (l1 < 0) <;> simp) with dl | dl
    · have HDL := hid (of_decide_eq_true dl)
      go_wp2_with fail
      all_goals go_ret2
      all_goals
        unfold MPost
        have h1 := HDL.out
        have h2 := HLL.out
        exact ⟨⟨#[]⟩, false, l1, rfl, (fun h => by cases h), by omega, HBUT.out, HMY.out⟩
    have hl2 : 0 ≤ l1 := by have := of_decide_eq_false dl; omega
    have hl3 : l1 ≤ 599 := by have := HLL.out; omega
    by_cases o2 : p.op = 2
    · skip
      have d2 : (p.op == 2) = true := by simpa using o2
      have HF := hid (fac_two (xs := xs) (G := Z.G) o2)
      have HPOS := hid (str_pos HWF.out.set (Re.set_some HTY.out o2))
      clear o2
      go_wp2_with fail
      refine (List_any p.set y HWF.out.set).mono ?_
      rintro e w2 ⟨rfl, hb2⟩
      have HM2 := hid (HMY.out.below hb2)
      have HB2 := hid (HB.out.trans (hb2.mono HB.out.size))
      have HBUT2 : Hid (But [Z.mb, Z.tb, Z.gb] w w2) := HBUT.out.trans (But.of_below hb2)
      have hsz256 : p.set.str.size ≤ 256 := by
        have h := p.set.nums_le 256
        have e : p.set.str.size = (p.set.nums 256).length := strOfNums_size _
        omega
      clear hb2 q1 q2 z1
      go_wp2_with fail
      refine (nextM HZ.out HB2.out HM2.out (p.set.str.size : Int) (by omega)).mono ?_
      rintro e w3 ⟨r, rfl, hr0, hr1, hn⟩
      have HM3 := hid (hn.2 _ HM2.out)
      have HBUT3 : Hid (But [Z.mb, Z.tb, Z.gb] w w3) := HBUT2.out.trans (hn.1.mono (fun k hk => .inl (by simp at hk; simp [hk])))
      have hpos := HPOS.out
      obtain ⟨rn, rfl⟩ : ∃ rn : Nat, r = rn := ⟨r.toNat, by omega⟩
      have hlt : rn < p.set.str.size := by have := hr1 (by omega); omega
      have hlt2 : (rn : Int) + 1 ≤ (p.set.str.size : Int) := by omega
      obtain ⟨c, hc1, hc2⟩ := str_has p.set rn hlt
      have HC1 := hid (And.intro hc1 hc2)
      clear hn hr1 hc1 hc2 hpos
      go_wp2_with fail
      all_goals go_ret2
      all_goals
        unfold MPost
        have h1 := HLL.out
        obtain ⟨hc1, hc2⟩ := HC1.out
        have e1 : (p.set.str.extract rn (rn + 1)).size = 1 := by
          show (p.set.str.extract rn (rn + 1)).data.toList.length = 1
          rw [hc1]; rfl
        refine ⟨p.set.str.extract rn (rn + 1), true, l1, rfl, (fun _ => ⟨?_, hl2, by rw [e1]; omega⟩), by omega, HBUT3.out, HM3.out⟩
        rw [HF.out, hc1]
        exact Fit.set hc2
    by_cases o3 : p.op = 3
    · skip
      have d2 : (p.op == 2) = false := by simp [o3]
      have d3 : (p.op == 3) = true := by simpa using o3
      have HF := hid (fac_three (xs := xs) (G := Z.G) o3)
      have hk2 := Re.kids_two HTY.out (.inl o3)
      have HCB := hid (cats_begin (l := xs.map (Re.fac Z.G)) (by intro h; rw [List.map_eq_nil_iff] at h; rw [h] at hk2; simp at hk2) (fun f hf => by
        obtain ⟨x, hx, rfl⟩ := List.mem_map.1 hf
        obtain ⟨k, hk, rfl⟩ := List.getElem_of_mem hx
        exact HLEN.out k hk))
      have hel : ∀ k x, xs[k]? = some x → ∃ (b o : Nat) (cs : List Value), ad = some ⟨b, o, none⟩ ∧ CellsAt y b (o + k * 9) cs ∧ x.In wb cs ∧ b ≠ Z.mb ∧ b ≠ Z.tb ∧ b ≠ Z.gb := fun k x hx => by
        obtain ⟨hk, rfl⟩ := List.getElem?_eq_some_iff.1 hx
        obtain ⟨b, o, p', ad', n', cap', e, HC, HI0, hbb⟩ := HAL.out.kid HB.out k hk
        have h := HGE.out
        exact ⟨b, o, _, e, HC.out, HI0.out, by omega, by omega, by omega⟩
      have hle : ∀ x, x ∈ xs → 0 ≤ (x.fac Z.G).least := fun x hx => by
        obtain ⟨k, hk, rfl⟩ := List.getElem_of_mem hx
        exact HLST.out k hk
      have hmake : ∀ x, x ∈ xs → ∀ (w : World) (cs : List Value) (left : Int), x.In wb cs → Below wb.heap.size wb w → MAt Z w left → 0 ≤ left → left ≤ 600 → Calls Try.prog 28 #[.pointer (some ⟨Z.mb, 0, none⟩), .agg cs.toArray] w (MPost Z w (x.fac Z.G) left) := fun x hx => by
        obtain ⟨k, hk, rfl⟩ := List.getElem_of_mem hx
        exact HIN.out k hk
      clear o3
      go_wp2_with fail
      refine (all_any xs ad cap y l1 HB.out HZ.out HMY.out (by omega) hel (by omega) hle hmake).mono ?_
      unfold APost
      rintro e w2 ⟨s, ok, l2, rfl, h1, ⟨h2, h3⟩, h4, h5⟩
      have H1 := hid h1
      have HBU := hid (HBUT.out.trans h4)
      have HM2 := hid h5
      clear h1 h4 h5 hel hle hmake q1 q2 z1
      go_wp2_with fail
      all_goals go_ret2
      all_goals
        unfold MPost
        have hll := HLL.out
        refine ⟨s, ok, l2, rfl, (fun hk => ?_), by omega, HBU.out, HM2.out⟩
        obtain ⟨g1, g2, g3⟩ := H1.out hk
        rw [HF.out, ← HCB.out]
        exact ⟨g1, g2, by omega⟩
    by_cases o4 : p.op = 4
    · skip
      have d2 : (p.op == 2) = false := by simp [o4]
      have d3 : (p.op == 3) = false := by simp [o4]
      have d4 : (p.op == 4) = true := by simpa using o4
      have HF := hid (fac_four (xs := xs) (G := Z.G) o4)
      have hk2 := Re.kids_two HTY.out (.inr o4)
      obtain ⟨b, o, p0, ad0, n0, cap0, rfl, -, -, hbb⟩ := HAL.out.kid HB.out 0 (by omega)
      have HKID : Hid (∀ (x : World), Below wb.heap.size wb x → ∀ k, k < xs.length → ∃ (p' : Pay) (ad' : Option Addr) (n' cap' : Nat), CellsAt x b (o + k * 9) [.int .i64 p'.op, .int .u64 p'.set.a, .int .u64 p'.set.b, .int .u64 p'.set.c, .int .u64 p'.set.d, .int .i64 p'.lo, .int .i64 p'.hi, .int .i64 p'.gr, .slice ad' n' cap'] ∧ ∃ hk : k < xs.length, xs[k].In wb [.int .i64 p'.op, .int .u64 p'.set.a, .int .u64 p'.set.b, .int .u64 p'.set.c, .int .u64 p'.set.d, .int .i64 p'.lo, .int .i64 p'.hi, .int .i64 p'.gr, .slice ad' n' cap']) := fun x hx k hk => by
        obtain ⟨b2, o2, p', ad', n', cap', e, HC, HI0, -⟩ := HAL.out.kid hx k hk
        injection e with e
        injection e with e1 e2
        subst e1 e2
        exact ⟨p', ad', n', cap', HC.out, hk, HI0.out⟩
      clear o4
      go_wp2_with fail
      have HNXT := hid (nextM HZ.out HB.out.drew HMY.out.drew (xs.length : Int) (by omega))
      have HX8 := hid (fun (x : World) (hx : NxR Z y.drew x) => (HROW.out.drew.but hx.1 (by simp; omega)).cell 8)
      have HBX := hid (fun (x : World) (hx : NxR Z y.drew x) => (HB.out.drew.trans (hx.1.below (n := wb.heap.size) HB.out.size (fun k hk => by simp at hk; rw [hk]; exact HGE.out.1)) : Below wb.heap.size wb x))
      have q8 := q1
      go_region_with (first
        | (go_at_call 51; refine HNXT.out.mono ?_; rintro e x ⟨r, rfl, hr0, hr1, hnx⟩; obtain ⟨k, hkr, hk⟩ : ∃ k : Nat, r = k ∧ k < xs.length := ⟨r.toNat, by omega, by have := hr1 (by omega); omega⟩; subst hkr; have qx8 := HX8.out x hnx; have HBXX := hid (HBX.out x hnx); have HMX := hid (hnx.2 _ HMY.out.drew); have HBX1 := hid hnx.1; obtain ⟨p', ad', n', cap', hkc, hk2, hkin⟩ := HKID.out x HBXX.out k hk; have HKI := hid hkin; have qk := hkc.c9; clear hr0 hr1 hnx hkc hkin)
        | (go_at_call 28; refine (HIN.out k hk x _ l1 HKI.out HBXX.out HMX.out hl2 (by omega)).mono ?_; unfold MPost; rintro e w2 ⟨s, ok, l2, rfl, h1, ⟨h2, h3⟩, h4, h5⟩; have H1 := hid h1; have HBU := hid ((HBUT.out.trans ((But.refl _ y).drew.trans (HBX1.out.mono (fun k hk => .inl (by simp at hk; simp [hk]))))).trans h4); have HM2 := hid h5; clear h1 h4 h5))
      all_goals go_wp2_with fail
      all_goals go_ret2
      all_goals
        unfold MPost
        have hll := HLL.out
        refine ⟨s, ok, l2, rfl, (fun hk' => ?_), by omega, HBU.out, HM2.out⟩
        obtain ⟨g1, g2, g3⟩ := H1.out hk'
        rw [HF.out]
        exact ⟨Fit.alts (List.mem_map.2 ⟨xs[k], List.getElem_mem hk, rfl⟩) g1, g2, by omega⟩
    by_cases o5 : p.op = 5
    · skip
      have d2 : (p.op == 2) = false := by simp [o5]
      have d3 : (p.op == 3) = false := by simp [o5]
      have d4 : (p.op == 4) = false := by simp [o5]
      have d5 : (p.op == 5) = true := by simpa using o5
      obtain ⟨x, rfl⟩ := Re.one_kid HTY.out o5
      have HF := hid (fac_five (x := x) (G := Z.G) o5)
      have hbd := Pay.badRep_false (HBAD.out o5)
      have HBD := hid hbd
      have HTM := hid (mtimes_any HZ.out p x y _ l1 HIN0.out HB.out HMY.out hbd.1 (by omega))
      clear o5 hbd
      go_wp2_with fail
      refine HTM.out.mono ?_
      unfold TPost
      rintro e w2 ⟨n, a2, c2, cx, rfl, hn1, hn2, hn3, hnx, hcx, hown⟩
      have HB2 : Hid (Below wb.heap.size wb w2) := HB.out.trans (hnx.1.below (n := wb.heap.size) HB.out.size (fun k hk => by simp at hk; rw [hk]; exact HGE.out.1))
      have HM2 := hid (hnx.2 _ HMY.out)
      have HBU2 : Hid (But [Z.mb, Z.tb, Z.gb] w w2) := HBUT.out.trans (hnx.1.mono (fun k hk => .inl (by simp at hk; simp [hk])))
      have hyw := HBUT.out.size
      have hel : ∀ k z, (List.replicate n x)[k]? = some z → ∃ (b o : Nat) (cs : List Value), a2 = some ⟨b, o, none⟩ ∧ CellsAt w2 b (o + k * 9) cs ∧ z.In wb cs ∧ b ≠ Z.mb ∧ b ≠ Z.tb ∧ b ≠ Z.gb := fun k z hz => by
        obtain ⟨hk, hzx⟩ := List.getElem?_eq_some_iff.1 hz
        have hkn : k < n := by simpa using hk
        have hzx' : z = x := by rw [← hzx]; simp
        obtain ⟨g, c', hv, hg1, hg2, hg3, hce⟩ := hown.elem k (x, cx) (by simp [hkn])
        injection hv with e1 e2 e3
        exact ⟨g, 0, cx, e1, by rw [Nat.zero_add]; exact hce, by rw [hzx']; exact hcx, by omega, by omega, by omega⟩
      have hle : ∀ z, z ∈ List.replicate n x → 0 ≤ (z.fac Z.G).least := fun z hz => by
        rw [(List.mem_replicate.1 hz).2]
        exact HLST.out 0 (by simp)
      have hmake : ∀ z, z ∈ List.replicate n x → ∀ (w : World) (cs : List Value) (left : Int), z.In wb cs → Below wb.heap.size wb w → MAt Z w left → 0 ≤ left → left ≤ 600 → Calls Try.prog 28 #[.pointer (some ⟨Z.mb, 0, none⟩), .agg cs.toArray] w (MPost Z w (z.fac Z.G) left) := fun z hz => by
        rw [(List.mem_replicate.1 hz).2]
        exact HIN.out 0 (by simp)
      have hA := all_any (List.replicate n x) a2 c2 w2 l1 HB2.out HZ.out HM2.out ⟨hl2, by omega⟩ hel (by rw [List.length_replicate]; omega) hle hmake
      rw [List.length_replicate, List.map_replicate] at hA
      have HA := hid hA
      have HNN := hid (And.intro hn1 hn2)
      clear hel hle hmake hA hn1 hn2 hnx hcx hown q1 q2 z1
      go_wp2_with fail
      refine HA.out.mono ?_
      unfold APost
      rintro e w3 ⟨s, ok, l2, rfl, h1, ⟨h2, h3⟩, h4, h5⟩
      have H1 := hid h1
      have HBU := hid (HBU2.out.trans h4)
      have HM3 := hid h5
      clear h1 h4 h5
      go_wp2_with fail
      all_goals go_ret2
      all_goals
        unfold MPost
        have hll := HLL.out
        refine ⟨s, ok, l2, rfl, (fun hk => ?_), by omega, HBU.out, HM3.out⟩
        obtain ⟨g1, g2, g3⟩ := H1.out hk
        rw [HF.out]
        exact ⟨Fit.rep g1 (HLEN.out 0 (by simp)) (HLST.out 0 (by simp)) HBD.out.1.1 HNN.out.1 HNN.out.2, g2, by omega⟩
    by_cases o6 : p.op = 6
    · skip
      have d2 : (p.op == 2) = false := by simp [o6]
      have d3 : (p.op == 3) = false := by simp [o6]
      have d4 : (p.op == 4) = false := by simp [o6]
      have d5 : (p.op == 5) = false := by simp [o6]
      have d6 : (p.op == 6) = true := by simpa using o6
      obtain ⟨x, rfl⟩ := Re.kids_one HTY.out o6
      have HF := hid (fac_six (x := x) (G := Z.G) o6)
      have hgr := HGR.out (.inl o6)
      obtain ⟨j, hj⟩ : ∃ j : Nat, p.gr = (j : Int) + 1 := ⟨(p.gr - 1).toNat, by omega⟩
      have hjn : j < Z.nn := by omega
      have hnn9 := HZ.out.nn
      have HG : Hid (Z.G ((j : Int) + 1) = some (x.fac Z.G)) := by
        have h := HG6.out o6
        rw [hj] at h
        exact h
      obtain ⟨b, o, p', ad', n', cap', rfl, HKC, HI0, hbb⟩ := HAL.out.kid HB.out 0 (by simp)
      have HKC2 : Hid (CellsAt y b o [.int .i64 p'.op, .int .u64 p'.set.a, .int .u64 p'.set.b, .int .u64 p'.set.c, .int .u64 p'.set.d, .int .i64 p'.lo, .int .i64 p'.hi, .int .i64 p'.gr, .slice ad' n' cap']) := by
        have h := HKC.out
        rw [Nat.zero_mul, Nat.add_zero] at h
        exact h
      have HJ := hid hj
      clear o6 hgr hj HKC
      go_wp2_with (first | (with_reducible (refine wpList_load_agg rfl 28 _ rfl b o rfl _ _ HKC2.out Try.underlying28 rfl (size_re9 _ _ _ _ _ _ _ _ _) ?_)))
      refine (HIN.out 0 (by simp) y _ l1 HI0.out HB.out HMY.out hl2 (by omega)).mono ?_
      unfold MPost
      rintro e w2 ⟨s, ok, l2, rfl, h1, ⟨h2, h3⟩, h4, h5⟩
      obtain ⟨a2, ts, gs, k1, k2, k3, k4, k5, k6, k7⟩ := h5
      unfold MK.row at k1
      have H1 := hid h1
      have HBU := hid (HBUT.out.trans h4)
      have HROW2 := hid (HROW.out.but h4 (by simp; omega))
      have HK1 := hid k1
      have HK3 := hid k3
      have HK4 := hid k4
      have HK := hid (And.intro k2 (And.intro k5 (And.intro k6 k7)))
      have hjt : j < ts.length := by omega
      have hjg : j < gs.length := by omega
      have HMT2 := HMT.out
      have hmt : Z.mb ≠ Z.tb := HMT2.1
      have hmg : Z.mb ≠ Z.gb := HMT2.2.1
      have htg : Z.tb ≠ Z.gb := HMT2.2.2
      have HTL := hid k5
      have HGL := hid k6
      clear h1 h4 k1 k2 k3 k4 k5 k6 k7 q1 q2 z1 HMT2
      go_wp2_with fail
      have HC17 := hid (fun (x : World) (hx : Grow w2.drew x) => (show x.cell? ⟨w.heap.size, 7, none⟩ = some (.int .i64 ((j : Int) + 1)) ∧ x.cell? ⟨Z.mb, 2, none⟩ = some (.slice (some ⟨Z.tb, 0, none⟩) Z.nn Z.nn) from
        ⟨by rw [← HJ.out]; exact (HROW2.out.drew.below hx HROW2.out.drew.lt).cell 7, (HK1.out.drew.below hx HK1.out.drew.lt).cell 2⟩))
      refine wp_region_inv 9 (Grow) (by kernel_rfl) (by kernel_rfl) (Grow.refl) (fun _ _ _ => Grow.trans) ?_
      simp only [fill, dstOf, Act.put, List.take_succ_cons, List.take_zero, List.getElem?_toArray, List.getElem?_cons_zero, List.getElem?_cons_succ, Option.bind_some, List.setIfInBounds_toArray, List.set_cons_zero, List.set_cons_succ]
      refine Plan.det 1 rfl (Grow.refl) ?_
      apply Exists.intro
      refine ⟨fun vs x hR hF K hK => ?_, ?_⟩
      · clear hF
        go_simp
        exact hK _ _ (Grow.refl _) rfl
      refine Plan.det 2 rfl (Grow.refl) ?_
      apply Exists.intro
      refine ⟨fun vs x hR hF K hK => ?_, ?_⟩
      · have f0 := hF 0 _ _ rfl rfl; clear hF
        go_simp
        exact hK _ _ (Grow.refl _) rfl
      refine Plan.det 3 rfl (Grow.refl) ?_
      apply Exists.intro
      refine ⟨fun vs x hR hF K hK => ?_, ?_⟩
      · have f1 := hF 0 _ _ rfl rfl; clear hF
        go_simp
        exact hK _ _ (Grow.refl _) rfl
      refine Plan.det 4 rfl (Grow.refl) ?_
      apply Exists.intro
      refine ⟨fun vs x hR hF K hK => ?_, ?_⟩
      · have f2 := hF 0 _ _ rfl rfl; have hc := HC17.out x hR; clear hF
        go_simp
        exact hK _ _ (Grow.refl _) rfl
      refine Plan.det 5 rfl (Grow.refl) ?_
      apply Exists.intro
      refine ⟨fun vs x hR hF K hK => ?_, ?_⟩
      · clear hF
        go_simp
        exact hK _ _ (Grow.refl _) rfl
      refine Plan.det 6 rfl (Grow.refl) ?_
      apply Exists.intro
      refine ⟨fun vs x hR hF K hK => ?_, ?_⟩
      · have f4 := hF 0 _ _ rfl rfl; have hc := HC17.out x hR; clear hF
        go_simp
        exact hK _ _ (Grow.refl _) rfl
      refine Plan.det 7 rfl (Grow.refl) ?_
      apply Exists.intro
      refine ⟨fun vs x hR hF K hK => ?_, ?_⟩
      · have f5 := hF 0 _ _ rfl rfl; clear hF
        go_simp
        rw [IntWalk.i64_in (j : Int) (by omega)]
        exact hK _ _ (Grow.refl _) rfl
      refine Plan.det 8 rfl (Grow.refl) ?_
      apply Exists.intro
      refine ⟨fun vs x hR hF K hK => ?_, ?_⟩
      · clear hF
        go_simp
        exact hK _ _ (Grow.refl _) rfl
      refine Plan.det 9 rfl (Grow.refl) ?_
      apply Exists.intro
      refine ⟨fun vs x hR hF K hK => ?_, ?_⟩
      · have f0 := hF 7 _ _ rfl rfl; have f1 := hF 6 _ _ rfl rfl; have f2 := hF 5 _ _ rfl rfl; have f3 := hF 4 _ _ rfl rfl; have f4 := hF 3 _ _ rfl rfl; have f5 := hF 2 _ _ rfl rfl; have f6 := hF 1 _ _ rfl rfl; have f7 := hF 0 _ _ rfl rfl; clear hF
        go_simp
        exact hK _ _ (Grow.refl _) rfl
      refine Plan.nil (fun vs x hR hF => ?_)
      have f0 := hF 8 _ _ rfl; have f1 := hF 7 _ _ rfl; have f2 := hF 6 _ _ rfl; have f3 := hF 5 _ _ rfl; have f4 := hF 4 _ _ rfl; have f5 := hF 3 _ _ rfl; have f6 := hF 2 _ _ rfl; have f7 := hF 1 _ _ rfl; have f8 := hF 0 _ _ rfl
      clear hF
      simp only [f0, f1, f2, f3, f4, f5, f6, f7, f8]
      clear f0 f1 f2 f3 f4 f5 f6 f7 f8
      simp only [List.drop_succ_cons, List.drop_zero]
      have HT3 := hid (HK3.out.drew.below hR HK3.out.drew.lt)
      have hB3 : But [Z.mb, Z.tb, Z.gb] w2 x := (But.refl _ w2).drew.trans (But.of_below' hR)
      have qk : x.cell? ⟨Z.tb, j, none⟩ = some (.string ts[j]) ∧ x.frozen? ⟨Z.tb, j, none⟩ = false := ⟨by rw [HT3.out.cell]; simp [hjt], HT3.out.free j⟩
      have HB1 := hid ((HK1.out.drew.below hR HK1.out.drew.lt).other hmt j (.string s))
      have HB4 := hid ((HK4.out.drew.below hR HK4.out.drew.lt).other (Ne.symm htg) j (.string s))
      have HBX := hid ((HROW2.out.drew.below hR HROW2.out.drew.lt).other (by omega : w.heap.size ≠ Z.tb) j (.string s))
      have HB3 := hid (HT3.out.set j (.string s))
      have HBUY := hid ((HBU.out.trans hB3).setCell (p := ⟨Z.tb, j, none⟩) (.inl (by simp)) (.string s))
      clear hR HC17 hB3
      go_upto_region 18 with fail
      generalize x.setCell ⟨Z.tb, j, none⟩ (.string s) = y2 at *
      clear qk
      have HC18 := hid (fun (x : World) (hx : Grow y2.drew x) => (show x.cell? ⟨w.heap.size, 7, none⟩ = some (.int .i64 ((j : Int) + 1)) ∧ x.cell? ⟨Z.mb, 3, none⟩ = some (.slice (some ⟨Z.gb, 0, none⟩) Z.nn Z.nn) from
        ⟨by rw [← HJ.out]; exact (HBX.out.drew.below hx HBX.out.drew.lt).cell 7, (HB1.out.drew.below hx HB1.out.drew.lt).cell 3⟩))
      refine wp_region_inv 9 (Grow) (by kernel_rfl) (by kernel_rfl) (Grow.refl) (fun _ _ _ => Grow.trans) ?_
      simp only [fill, dstOf, Act.put, List.take_succ_cons, List.take_zero, List.getElem?_toArray, List.getElem?_cons_zero, List.getElem?_cons_succ, Option.bind_some, List.setIfInBounds_toArray, List.set_cons_zero, List.set_cons_succ]
      refine Plan.det 1 rfl (Grow.refl) ?_
      apply Exists.intro
      refine ⟨fun vs x hR hF K hK => ?_, ?_⟩
      · clear hF
        go_simp
        exact hK _ _ (Grow.refl _) rfl
      refine Plan.det 2 rfl (Grow.refl) ?_
      apply Exists.intro
      refine ⟨fun vs x hR hF K hK => ?_, ?_⟩
      · have f0 := hF 0 _ _ rfl rfl; clear hF
        go_simp
        exact hK _ _ (Grow.refl _) rfl
      refine Plan.det 3 rfl (Grow.refl) ?_
      apply Exists.intro
      refine ⟨fun vs x hR hF K hK => ?_, ?_⟩
      · have f1 := hF 0 _ _ rfl rfl; clear hF
        go_simp
        exact hK _ _ (Grow.refl _) rfl
      refine Plan.det 4 rfl (Grow.refl) ?_
      apply Exists.intro
      refine ⟨fun vs x hR hF K hK => ?_, ?_⟩
      · have f2 := hF 0 _ _ rfl rfl; have hc := HC18.out x hR; clear hF
        go_simp
        exact hK _ _ (Grow.refl _) rfl
      refine Plan.det 5 rfl (Grow.refl) ?_
      apply Exists.intro
      refine ⟨fun vs x hR hF K hK => ?_, ?_⟩
      · clear hF
        go_simp
        exact hK _ _ (Grow.refl _) rfl
      refine Plan.det 6 rfl (Grow.refl) ?_
      apply Exists.intro
      refine ⟨fun vs x hR hF K hK => ?_, ?_⟩
      · have f4 := hF 0 _ _ rfl rfl; have hc := HC18.out x hR; clear hF
        go_simp
        exact hK _ _ (Grow.refl _) rfl
      refine Plan.det 7 rfl (Grow.refl) ?_
      apply Exists.intro
      refine ⟨fun vs x hR hF K hK => ?_, ?_⟩
      · have f5 := hF 0 _ _ rfl rfl; clear hF
        go_simp
        rw [IntWalk.i64_in (j : Int) (by omega)]
        exact hK _ _ (Grow.refl _) rfl
      refine Plan.det 8 rfl (Grow.refl) ?_
      apply Exists.intro
      refine ⟨fun vs x hR hF K hK => ?_, ?_⟩
      · clear hF
        go_simp
        exact hK _ _ (Grow.refl _) rfl
      refine Plan.det 9 rfl (Grow.refl) ?_
      apply Exists.intro
      refine ⟨fun vs x hR hF K hK => ?_, ?_⟩
      · have f0 := hF 7 _ _ rfl rfl; have f1 := hF 6 _ _ rfl rfl; have f2 := hF 5 _ _ rfl rfl; have f3 := hF 4 _ _ rfl rfl; have f4 := hF 3 _ _ rfl rfl; have f5 := hF 2 _ _ rfl rfl; have f6 := hF 1 _ _ rfl rfl; have f7 := hF 0 _ _ rfl rfl; clear hF
        go_simp
        exact hK _ _ (Grow.refl _) rfl
      refine Plan.nil (fun vs x hR hF => ?_)
      have f0 := hF 8 _ _ rfl; have f1 := hF 7 _ _ rfl; have f2 := hF 6 _ _ rfl; have f3 := hF 5 _ _ rfl; have f4 := hF 4 _ _ rfl; have f5 := hF 3 _ _ rfl; have f6 := hF 2 _ _ rfl; have f7 := hF 1 _ _ rfl; have f8 := hF 0 _ _ rfl
      clear hF
      simp only [f0, f1, f2, f3, f4, f5, f6, f7, f8]
      clear f0 f1 f2 f3 f4 f5 f6 f7 f8
      simp only [List.drop_succ_cons, List.drop_zero]
      have HG4 := hid (HB4.out.drew.below hR HB4.out.drew.lt)
      have qg : x.cell? ⟨Z.gb, j, none⟩ = some (.bool gs[j]) ∧ x.frozen? ⟨Z.gb, j, none⟩ = false := ⟨by rw [HG4.out.cell]; simp [hjg], HG4.out.free j⟩
      have HD1 := hid ((HB1.out.drew.below hR HB1.out.drew.lt).other hmg j (.bool ok))
      have HD3 := hid ((HB3.out.drew.below hR HB3.out.drew.lt).other htg j (.bool ok))
      have HD4 := hid (HG4.out.set j (.bool ok))
      have HBUZ := hid ((HBUY.out.trans ((But.refl _ y2).drew.trans (But.of_below' hR))).setCell (p := ⟨Z.gb, j, none⟩) (.inl (by simp)) (.bool ok))
      clear hR HC18
      go_wp2_with fail
      all_goals go_ret2
      all_goals
        unfold MPost
        have hll := HLL.out
        obtain ⟨m2, m5, m6, m7⟩ := HK.out
        refine ⟨s, ok, l2, rfl, (fun hk => ?_), by omega, HBUZ.out, ⟨a2, ts.set j s, gs.set j ok, HD1.out, m2, ?_, ?_, by rw [List.length_set]; exact m5, by rw [List.length_set]; exact m6, fun k hk => ?_⟩⟩
        · obtain ⟨g1, g2, g3⟩ := H1.out hk
          rw [HF.out]
          exact ⟨g1, g2, by omega⟩
        · rw [List.map_set]; exact HD3.out
        · rw [List.map_set]; exact HD4.out
        · by_cases hkj : j = k
          · subst hkj
            rw [List.getElem?_set_self hjg] at hk
            refine ⟨s, List.getElem?_set_self hjt, ?_⟩
            rw [HG.out]
            exact (H1.out (Option.some.inj hk)).1
          · rw [List.getElem?_set_ne hkj] at hk ⊢
            exact m7 k hk
    by_cases o9 : p.op = 9
    · skip
      have d2 : (p.op == 2) = false := by simp [o9]
      have d3 : (p.op == 3) = false := by simp [o9]
      have d4 : (p.op == 4) = false := by simp [o9]
      have d5 : (p.op == 5) = false := by simp [o9]
      have d6 : (p.op == 6) = false := by simp [o9]
      have d9 : (p.op == 9) = true := by simpa using o9
      have HF := hid (fac_nine (xs := xs) (G := Z.G) o9)
      have hgr := HGR.out (.inr o9)
      obtain ⟨j, hj⟩ : ∃ j : Nat, p.gr = (j : Int) + 1 := ⟨(p.gr - 1).toNat, by omega⟩
      have hjn : j < Z.nn := by omega
      have hnn9 := HZ.out.nn
      have HMY2 := HMY.out
      obtain ⟨a2, ts, gs, k1, k2, k3, k4, k5, k6, k7⟩ := HMY2
      unfold MK.row at k1
      have hjt : j < ts.length := by omega
      have hjg : j < gs.length := by omega
      rw [hj] at q1
      have qm := k1.c5
      have qt : y.cell? ⟨Z.tb, j, none⟩ = some (.string ts[j]) := by rw [k3.cell]; simp [hjt]
      have HK7 := hid (k7 j)
      have HJ := hid hj
      have hgt : gs[j]? = some gs[j] := List.getElem?_eq_getElem hjg
      have htt : ts[j]? = some ts[j] := List.getElem?_eq_getElem hjt
      have qg : y.cell? ⟨Z.gb, j, none⟩ = some (.bool gs[j]) := by rw [k4.cell]; simp [hjg]
      generalize ts[j] = s at qt htt
      generalize gs[j] = ok at qg hgt
      have HGT := hid hgt
      have HTT := hid htt
      have HBN : Hid (∀ n, Below y.heap.size y (y.drewN n)) := fun n => below_drewN (Below.refl y.heap.size y) n
      clear o9 hgr hj q2 k1 k2 k3 k4 k5 k6 k7 hgt htt
      cases ok
      · go_wp2_with fail
        go_quiet (fail)
        go_wp2_with fail
        all_goals go_ret2
        all_goals
          unfold MPost
          have hll := HLL.out
          exact ⟨s, false, l1, rfl, (fun h => by cases h), by omega, HBUT.out.trans (But.of_below (HBN.out _)), HMY.out.below (HBN.out _)⟩
      · rcases (show decide ((s.size : Int) ≤ 100) = true ∨ decide ((s.size : Int) ≤ 100) = false by cases decide ((s.size : Int) ≤ 100) <;> simp) with d1 | d1
        · have HD1 := hid (of_decide_eq_true d1)
          go_wp2_with fail
          go_quiet (fail)
          go_wp2_with fail
          all_goals go_ret2
          all_goals
            unfold MPost
            have hll := HLL.out
            have hd := HD1.out
            refine ⟨s, true, l1, rfl, (fun _ => ⟨?_, hl2, by omega⟩), by omega, HBUT.out.trans (But.of_below (HBN.out _)), HMY.out.below (HBN.out _)⟩
            obtain ⟨s', h1, h2⟩ := HK7.out HGT.out
            rw [HTT.out] at h1
            cases h1
            rw [HF.out, HJ.out]
            exact h2
        · go_wp2_with fail
          go_quiet (fail)
          go_wp2_with fail
          all_goals go_ret2
          all_goals
            unfold MPost
            have hll := HLL.out
            exact ⟨s, false, l1, rfl, (fun h => by cases h), by omega, HBUT.out.trans (But.of_below (HBN.out _)), HMY.out.below (HBN.out _)⟩
    have d2 : (p.op == 2) = false := by simpa using o2
    have d3 : (p.op == 3) = false := by simpa using o3
    have d4 : (p.op == 4) = false := by simpa using o4
    have d5 : (p.op == 5) = false := by simpa using o5
    have d6 : (p.op == 6) = false := by simpa using o6
    have d9 : (p.op == 9) = false := by simpa using o9
    have HF := hid (fac_rest (xs := xs) (G := Z.G) o2 o3 o4 o5 o6 o9)
    clear o2 o3 o4 o5 o6 o9
    go_wp2_with fail
    all_goals go_ret2
    all_goals
      unfold MPost
      have hll := HLL.out
      refine ⟨⟨#[]⟩, true, l1, rfl, (fun _ => ⟨?_, hl2, ?_⟩), by omega, HBUT.out, HMY.out⟩
      · rw [HF.out]; exact Fit.empty
      · show ((0 : Nat) : Int) + _ ≤ _; omega
end Go.Proofs.Ytibfnmkeghkdpaa
