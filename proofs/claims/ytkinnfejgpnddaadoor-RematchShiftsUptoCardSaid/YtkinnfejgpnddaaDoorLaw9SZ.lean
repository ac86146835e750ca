/- The laws of layer 9: RematchShifts. -/
import Derived.Test.YtkinnfejgpnddaaDoorLaw9DZ
import Derived.Test.YtkinnfejgpnddaaDoorLaw9OZ
import Derived.Test.YtkinnfejgpnddaaDoorK22
import Derived.Test.YtkinnfejgpnddaaDoorK23
namespace Go.Proofs.YtkinnfejgpnddaaDoor
open Go.RowKit
attribute [local go_sem] gives givesUpon

theorem Row.c2 {w : World} {B : Nat} {a b : Value} {T : TypeId} (h : Row w B [a, b] T) : (w.cell? ⟨B, 0, none⟩ = some a ∧ w.cell? ⟨B, 1, none⟩ = some b) ∧ (w.frozen? ⟨B, 0, none⟩ = false ∧ w.frozen? ⟨B, 1, none⟩ = false) := ⟨⟨h.cell 0, h.cell 1⟩, h.free 0, h.free 1⟩
/-- A span of a list, in memory. -/
theorem spans_at {w : World} {sa : Option Addr} {gl sc k : Nat} {sp : Spans} {x : Int × Int} (h : SpQ w (.slice sa gl sc) sp) (hx : sp[k]? = some x) : ∃ bs, sa = some ⟨bs, 0, none⟩ ∧ bs < w.heap.size ∧ w.cell? ⟨bs, k * 2, none⟩ = some (.int .i64 x.1) ∧ w.cell? ⟨bs, k * 2 + 1, none⟩ = some (.int .i64 x.2) := by
  obtain ⟨a, c, e, h1⟩ := h
  have hne : sp ≠ [] := by rintro rfl; simp at hx
  obtain ⟨b, more, h2, hr⟩ := h1.resolve_left hne
  injection e with e1 e2 e3
  have hc := spc_get sp k x hx
  have hkk : 2 * k + 1 < (spc sp).length := (List.getElem?_eq_some_iff.1 hc.2).1
  refine ⟨b, by rw [e1, h2], hr.lt, ?_, ?_⟩
  · rw [hr.cell, Nat.mul_comm, List.getElem?_append_left (by omega)]; exact hc.1
  · rw [hr.cell, Nat.mul_comm, List.getElem?_append_left (by omega)]; exact hc.2
mutual
theorem Re.nobeg_anch : ∀ (t : Re), t.anch 7 = false → t.nobeg
  | .mk p xs, h => by
    rw [Re.anch, Bool.or_eq_false_iff, decide_eq_false_iff_not] at h
    rw [Re.nobeg]
    exact ⟨h.1, Re.nobegs_anch xs h.2⟩
theorem Re.nobegs_anch : ∀ (xs : List Re), Re.anchs 7 xs = false → Re.nobegs xs
  | [], _ => by rw [Re.nobegs]; trivial
  | x :: xs, h => by
    rw [Re.anchs, Bool.or_eq_false_iff] at h
    rw [Re.nobegs]
    exact ⟨Re.nobeg_anch x h.1, Re.nobegs_anch xs h.2⟩
end
set_option maxRecDepth 100000 in
set_option maxHeartbeats 16000000 in
theorem LawShifts9_any (w : World) (t : Re) (cs : List Value) (s d : ByteArray) (hin : t.In w cs) (ht : Tabs9 w) :
    Calls Tryd.prog 8 #[.agg cs.toArray, .string s, .string d] w (LawPost w) := by
  obtain ⟨p, ad, m, c, rfl⟩ := Re.cells_shape hin
  have hb2 : Below w.heap.size w (w.alloc (.cells #[.int .i64 p.op, .int .u64 p.set.a, .int .u64 p.set.b, .int .u64 p.set.c, .int .u64 p.set.d, .int .i64 p.lo, .int .i64 p.hi, .int .i64 p.gr, .slice ad m c] 28)) := (Below.refl _ _).alloc (Nat.le_refl _) _
  have hL : TreeAt w t [.int .i64 p.op, .int .u64 p.set.a, .int .u64 p.set.b, .int .u64 p.set.c, .int .u64 p.set.d, .int .i64 p.lo, .int .i64 p.hi, .int .i64 p.gr, .slice ad m c] (w.alloc (.cells #[.int .i64 p.op, .int .u64 p.set.a, .int .u64 p.set.b, .int .u64 p.set.c, .int .u64 p.set.d, .int .i64 p.lo, .int .i64 p.hi, .int .i64 p.gr, .slice ad m c] 28)) := ⟨Row.new rfl, hb2, hin.below hb2, ht.on hb2⟩
  have HL := hid hL
  clear hb2 hL hin ht
  have HFW := hid (few9_any (w.alloc (.cells #[.int .i64 p.op, .int .u64 p.set.a, .int .u64 p.set.b, .int .u64 p.set.c, .int .u64 p.set.d, .int .i64 p.lo, .int .i64 p.hi, .int .i64 p.gr, .slice ad m c] 28)) t [.int .i64 p.op, .int .u64 p.set.a, .int .u64 p.set.b, .int .u64 p.set.c, .int .u64 p.set.d, .int .i64 p.lo, .int .i64 p.hi, .int .i64 p.gr, .slice ad m c] s HL.out.2.2.1)
  have HAW : Hid (∀ x, TreeAt w t [.int .i64 p.op, .int .u64 p.set.a, .int .u64 p.set.b, .int .u64 p.set.c, .int .u64 p.set.d, .int .i64 p.lo, .int .i64 p.hi, .int .i64 p.gr, .slice ad m c] x → Calls Tryd.prog 11 #[] x (LawPost w)) := fun x hx => (awake9_any x hx.2.2.2).mono fun e w' h => ⟨h.1, hx.2.1.trans (h.2.mono hx.2.1.size)⟩
  have q0 := HL.out.1.c9
  by_cases hd : d.size ≤ 12
  case neg =>
    have hdI : (12 : Int) < d.size := by omega
    go_enter Tryd.func8, Tryd.ntmps8
    go_wp2_with fail
    refine HFW.out.mono ?_
    rintro e w1 ⟨b, rfl, -, hb⟩
    have HL1 := hid (HL.out.later hb)
    clear hb q0
    cases b
    all_goals
      go_wp2_with fail
      refine (HAW.out _ HL1.out).mono ?_
      rintro e w9 ⟨rfl, hb⟩
      have HB := hid hb
      clear hb
      go_wp2_with fail
      go_ret
      exact ⟨rfl, HB.out⟩
  have hdI : ¬ (12 : Int) < d.size := by omega
  go_enter Tryd.func8, Tryd.ntmps8
  go_wp2_with fail
  refine HFW.out.mono ?_
  rintro e w1 ⟨b, rfl, hbt, hb⟩
  have HL1 := hid (HL.out.later hb)
  have HBT := hid hbt
  clear hb q0 HFW hbt
  cases b with
  | false =>
    go_wp2_with fail
    refine (HAW.out _ HL1.out).mono ?_
    rintro e w9 ⟨rfl, hb⟩
    have HB := hid hb
    clear hb
    go_wp2_with fail
    go_ret
    exact ⟨rfl, HB.out⟩
  | true =>
  have hsz := (HBT.out (by simp)).1
  have hs := (HBT.out (by simp)).2
  have HSZ := hid hsz
  clear hsz
  have q0 := HL1.out.1.c9
  have HAN := hid (anchored9_any w1 t w1 [.int .i64 p.op, .int .u64 p.set.a, .int .u64 p.set.b, .int .u64 p.set.c, .int .u64 p.set.d, .int .i64 p.lo, .int .i64 p.hi, .int .i64 p.gr, .slice ad m c] HL1.out.2.2.1 (Below.refl _ _))
  cases ha7 : t.anch 7 with
  | true =>
    rw [ha7] at HAN
    clear ha7
    go_wp2_with fail
    refine HAN.out.mono ?_
    rintro e w2 ⟨rfl, hb⟩
    have HL2 := hid (HL1.out.later hb)
    clear hb q0
    go_wp2_with fail
    refine (HAW.out _ HL2.out).mono ?_
    rintro e w9 ⟨rfl, hb⟩
    have HB := hid hb
    clear hb
    go_wp2_with fail
    go_ret
    exact ⟨rfl, HB.out⟩
  | false =>
  rw [ha7] at HAN
  have hsl : ∀ x : ByteArray, x.data.toList.length = x.size := fun x => by rw [Array.length_toList]; rfl
  have hds : (d ++ s).size ≤ 24 := by rw [← hsl, ByteArray.data_append, Array.toList_append, List.length_append, hsl, hsl]; omega
  have hmap := parsesR_map t s d (Re.nobeg_anch t ha7)
  clear ha7 hsl
  obtain ⟨⟨l, x⟩, hr⟩ : ∃ r, r = parsesR t s 0 false := ⟨_, rfl⟩
  rw [← hr] at hmap
  have HMAP := hid hmap
  have hgood := parsesR_good (t := t) (s := s) (f := 0) (lines := false)
  rw [show ((0 : Nat) : Int) = 0 from rfl, ← hr] at hgood
  have HG := hid hgood
  have hll := parsesR_len (t := t) (s := s) (at_ := 0) (lines := false)
  have hsp := parsesR_sp (t := t) (s := s) (at_ := 0) (lines := false)
  rw [← hr] at hll hsp
  have HLL := hid hll
  have HSPN := hid hsp
  have HRR := hid hr
  have HDS := hid hds
  clear hmap hgood hll hsp hr hds
  go_wp2_with fail
  refine HAN.out.mono ?_
  rintro e w2 ⟨rfl, hb⟩
  have HL2 := hid (HL1.out.later hb)
  clear hb q0 HAN
  have q0 := HL2.out.1.c9
  have hpp := PParses_any w2 t [.int .i64 p.op, .int .u64 p.set.a, .int .u64 p.set.b, .int .u64 p.set.c, .int .u64 p.set.d, .int .i64 p.lo, .int .i64 p.hi, .int .i64 p.gr, .slice ad m c] s 0 false HL2.out.2.2.1 (by have := HSZ.out; omega) (by omega) HL2.out.2.2.2
  rw [← HRR.out] at hpp
  have HPP := hid hpp
  clear hpp
  go_wp2_with fail
  refine HPP.out.mono ?_
  rintro e w3 ⟨a3, c3, rfl, hb, hps⟩
  dsimp only at hps ⊢
  have HL3 := hid (⟨HL2.out.later hb, hps⟩ : _ ∧ _)
  clear hb hps q0 HPP
  have q0 := HL3.out.1.1.c9
  have hpp := PParses_any w3 t [.int .i64 p.op, .int .u64 p.set.a, .int .u64 p.set.b, .int .u64 p.set.c, .int .u64 p.set.d, .int .i64 p.lo, .int .i64 p.hi, .int .i64 p.gr, .slice ad m c] (d ++ s) d.size false HL3.out.1.2.2.1 (by have := HSZ.out; omega) (by have := HDS.out; omega) HL3.out.1.2.2.2
  rw [HMAP.out] at hpp
  have HPP := hid hpp
  clear hpp
  obtain ⟨n, hn⟩ : ∃ n, n = l.length := ⟨_, rfl⟩
  have HN := hid hn
  rw [← hn]
  have hn4 : n ≤ 4096 := by rw [hn]; exact HLL.out
  clear hn
  go_wp2_with fail
  refine HPP.out.mono ?_
  rintro e w4 ⟨a4, c4, rfl, hb, hps⟩
  dsimp only at hps ⊢
  have HL4 := hid (⟨HL3.out.1.later hb, HL3.out.2.below hb, hps⟩ : TreeAt w t [.int .i64 p.op, .int .u64 p.set.a, .int .u64 p.set.b, .int .u64 p.set.c, .int .u64 p.set.d, .int .i64 p.lo, .int .i64 p.hi, .int .i64 p.gr, .slice ad m c] w4 ∧ PsQ _ w4 _ _ ∧ PsQ _ w4 _ _)
  rw [List.length_map, ← HN.out] at HL4 ⊢
  clear hb hps q0 HPP HL3
  have hxb : (x != x) = false := by simp
  have hnb : ((n : Int) != (n : Int)) = false := by simp
  go_wp2_with fail
  go_loopw [11] (fun v wr => ∃ i : Nat, i ≤ n ∧ v = .int .i64 i ∧ Hid (Below w4.heap.size w4 wr)) (fun v _ => n - (intOf v).toNat)
  case atStart => exact ⟨0, Nat.zero_le _, rfl, Below.refl _ _⟩
  case round =>
    obtain ⟨i, hi, rfl, HB⟩ := hrel
    obtain ⟨wo, hwo⟩ : ∃ wo : World, wo = wr := ⟨_, rfl⟩
    rw [← hwo] at HB
    subst hwo
    have HL5 := hid (⟨HL4.out.1.later HB.out, HL4.out.2.1.below HB.out, HL4.out.2.2.below HB.out⟩ : TreeAt w t [.int .i64 p.op, .int .u64 p.set.a, .int .u64 p.set.b, .int .u64 p.set.c, .int .u64 p.set.d, .int .i64 p.lo, .int .i64 p.hi, .int .i64 p.gr, .slice ad m c] wo ∧ PsQ _ wo _ _ ∧ PsQ _ wo _ _)
    by_cases hlt : i < n
    · have hltI : (i : Int) < (n : Int) := by omega
      obtain ⟨b, cc, u1, u2, sa, sc, hq, ev, hb, -, -, p0, p1, hsq⟩ := HL5.out.2.1.get (k := i) (by rw [← HN.out]; exact hlt)
      obtain ⟨b', cc', v1, v2, sa', sc', hq', ev', hb', -, -, p2, p3, hsq'⟩ := HL5.out.2.2.get (k := i) (by rw [List.length_map, ← HN.out]; exact hlt)
      injection ev with e1 e2 e3
      subst e1; subst e3
      injection ev' with e4 e5 e6
      subst e4; subst e6
      rw [List.getElem?_map, hq] at hq'
      have hv := Option.some.inj hq'
      unfold shP at hv
      injection hv with hv1 hv2
      dsimp only at hv1 hv2
      subst hv1; subst hv2
      rw [List.length_map] at p3 hsq'
      have hgq := HG.out.2 (u1, u2) (List.mem_of_getElem? hq)
      dsimp only at hgq
      have h9 : u2.length ≤ 9 := HSPN.out (u1, u2) (List.mem_of_getElem? hq)
      obtain ⟨gl, hgl⟩ : ∃ gl, gl = u2.length := ⟨_, rfl⟩
      rw [← hgl] at p1 p3 hsq hsq' h9
      rw [Int.natCast_add] at p2
      have hw1 : IntKind.i64.wrap ((u1 : Int) + (d.size : Int)) = (u1 : Int) + (d.size : Int) := by rw [IntKind.wrap_i64]; omega
      have hu12 : u1 ≤ 12 := by omega
      have HU := hid hgq.2.2.2
      have HGL := hid hgl
      have HSQ := hid (⟨hsq, hsq'⟩ : SpQ wo _ _ ∧ SpQ wo _ _)
      have HC0 := hid (⟨p1, p3, hb, hb'⟩ : _ ∧ _ ∧ _ ∧ _)
      clear e2 e5 hq hq' hgl hsq hsq' hb hb' hgq
      go_wp2_with fail
      go_quiet (fail)
      have HB1 : Hid (Below wo.heap.size wo (wo.drewN nq)) := below_drewN (Below.refl _ _) nq
      generalize wo.drewN nq = w6 at HB1 ⊢
      have HC6 := hid (⟨(HB1.out.cell (p := ⟨b, i * 2 + 1, none⟩) HC0.out.2.2.1).trans HC0.out.1, (HB1.out.cell (p := ⟨b', i * 2 + 1, none⟩) HC0.out.2.2.2).trans HC0.out.2.1, HSQ.out.1.below HB1.out, HSQ.out.2.below HB1.out, Nat.lt_of_lt_of_le HC0.out.2.2.1 HB1.out.size, Nat.lt_of_lt_of_le HC0.out.2.2.2 HB1.out.size⟩ : _ ∧ _ ∧ SpQ w6 _ _ ∧ SpQ w6 _ _ ∧ _ ∧ _)
      clear p0 p1 p2 p3
      have p1 := HC6.out.1
      go_wp2_with fail
      go_loopw [12] (fun v wr => ∃ k : Nat, k ≤ gl ∧ v = .int .i64 k ∧ Hid (Below w6.heap.size w6 wr)) (fun v _ => gl - (intOf v).toNat)
      case atStart => exact ⟨0, Nat.zero_le _, rfl, Below.refl _ _⟩
      case round =>
        obtain ⟨k, hk, rfl, HB6⟩ := hrel
        obtain ⟨wx, hwx⟩ : ∃ wx : World, wx = wr := ⟨_, rfl⟩
        rw [← hwx] at HB6
        subst hwx
        have HC7 := hid (⟨(HB6.out.cell (p := ⟨b, i * 2 + 1, none⟩) HC6.out.2.2.2.2.1).trans HC6.out.1, (HB6.out.cell (p := ⟨b', i * 2 + 1, none⟩) HC6.out.2.2.2.2.2).trans HC6.out.2.1, Nat.lt_of_lt_of_le HC6.out.2.2.2.2.1 HB6.out.size, Nat.lt_of_lt_of_le HC6.out.2.2.2.2.2 HB6.out.size⟩ : _ ∧ _ ∧ _ ∧ _)
        clear p1
        have p1 := HC7.out.1
        by_cases hlk : k < gl
        · have hlkI : (k : Int) < (gl : Int) := by omega
          have hku : k < u2.length := by rw [← HGL.out]; exact hlk
          have hy := List.getElem?_eq_getElem hku
          obtain ⟨⟨y1, y2⟩, hyy⟩ : ∃ y, y = u2[k] := ⟨_, rfl⟩
          rw [← hyy] at hy
          obtain ⟨bs, rfl, hbs, r0, r1⟩ := spans_at (HC6.out.2.2.1.below HB6.out) hy
          obtain ⟨bz, rfl, hbz, r2, r3⟩ := spans_at (HC6.out.2.2.2.1.below HB6.out) (show (u2.map (shS d.size))[k]? = some (shS d.size (y1, y2)) by rw [List.getElem?_map, hy]; rfl)
          have hyu := HU.out (y1, y2) (List.mem_of_getElem? hy)
          clear hy hyy hku
          rcases hyu with hyu | hyu
          · injection hyu with g1 g2
            subst g1; subst g2
            rw [show shS d.size ((-1 : Int), (-1 : Int)) = (-1, -1) by unfold shS; rw [if_pos (by decide)]] at r2 r3
            dsimp only at r2 r3
            have HR7 := hid (⟨r0, r1, r2, r3, hbs, hbz⟩ : _ ∧ _ ∧ _ ∧ _ ∧ _ ∧ _)
            clear r0 r1 r2 r3 hbs hbz
            have HC := hid (fun (y : World) (hy0 : SpR wx.heap.size [.int .i64 0, .int .i64 0] [.int .i64 (-1), .int .i64 (-1)] 46 wx.drew y) => have hy : Below wx.heap.size wx y := hy0.under rfl; (⟨(hy.cell (p := ⟨b, i * 2 + 1, none⟩) HC7.out.2.2.1).trans HC7.out.1, (hy.cell (p := ⟨b', i * 2 + 1, none⟩) HC7.out.2.2.2).trans HC7.out.2.1, (hy.cell (p := ⟨bs, k * 2, none⟩) HR7.out.2.2.2.2.1).trans HR7.out.1, (hy.cell (p := ⟨bs, k * 2 + 1, none⟩) HR7.out.2.2.2.2.1).trans HR7.out.2.1, (hy.cell (p := ⟨bz, k * 2, none⟩) HR7.out.2.2.2.2.2).trans HR7.out.2.2.1, (hy.cell (p := ⟨bz, k * 2 + 1, none⟩) HR7.out.2.2.2.2.2).trans HR7.out.2.2.2.1⟩ : _ ∧ _ ∧ _ ∧ _ ∧ _ ∧ _))
            go_wp2_with fail
            refine wp_region_invG 19 (SpR wx.heap.size [.int .i64 0, .int .i64 0] [.int .i64 (-1), .int .i64 (-1)] 46) (by kernel_rfl) (by kernel_rfl) (SpR.refl) (fun _ _ _ => SpR.trans) ?_
            simp only [fill, dstOf, Act.put, List.take_succ_cons, List.take_zero, List.getElem?_toArray, List.getElem?_cons_zero, List.getElem?_cons_succ, Option.bind_some, List.setIfInBounds_toArray, List.set_cons_zero, List.set_cons_succ]
            refine PlanG.det 1 rfl (SpR.refl) ?_
            apply Exists.intro
            refine ⟨fun vs x hR hF K hK => ?_, ?_⟩
            · clear hF
              go_simp
              exact hK _ _ (SpR.refl _) rfl
            refine PlanG.det 2 rfl (SpR.refl) ?_
            apply Exists.intro
            refine ⟨fun vs x hR hF K hK => ?_, ?_⟩
            · clear hF
              go_simp
              exact hK _ _ (SpR.refl _) rfl
            refine PlanG.det 3 rfl (SpR.refl) ?_
            apply Exists.intro
            refine ⟨fun vs x hR hF K hK => ?_, ?_⟩
            · have f0 := hF 1 _ _ rfl rfl; have f1 := hF 0 _ _ rfl rfl; clear hF
              go_simp
              exact hK _ _ (SpR.refl _) rfl
            refine PlanG.det 4 rfl (SpR.refl) ?_
            apply Exists.intro
            refine ⟨fun vs x hR hF K hK => ?_, ?_⟩
            · have f2 := hF 0 _ _ rfl rfl; clear hF
              go_simp
              exact hK _ _ (SpR.refl _) rfl
            refine PlanG.det 5 rfl (SpR.refl) ?_
            apply Exists.intro
            refine ⟨fun vs x hR hF K hK => ?_, ?_⟩
            · have f3 := hF 0 _ _ rfl rfl; have hc := HC.out x hR; clear hF
              go_simp
              exact hK _ _ (SpR.refl _) rfl
            refine PlanG.det 6 rfl (SpR.refl) ?_
            apply Exists.intro
            refine ⟨fun vs x hR hF K hK => ?_, ?_⟩
            · clear hF
              go_simp
              exact hK _ _ (SpR.refl _) rfl
            refine PlanG.det 7 rfl (SpR.refl) ?_
            apply Exists.intro
            refine ⟨fun vs x hR hF K hK => ?_, ?_⟩
            · have f4 := hF 1 _ _ rfl rfl; have f5 := hF 0 _ _ rfl rfl; clear hF
              go_simp
              exact hK _ _ (SpR.refl _) rfl
            refine PlanG.det 8 rfl (SpR.refl) ?_
            apply Exists.intro
            refine ⟨fun vs x hR hF K hK => ?_, ?_⟩
            · have f6 := hF 0 _ _ rfl rfl; have hc := HC.out x hR; clear hF
              go_simp
              exact hK _ _ (SpR.refl _) rfl
            refine PlanG.det 9 rfl (SpR.refl) ?_
            apply Exists.intro
            refine ⟨fun vs x hR hF K hK => ?_, ?_⟩
            · clear hF
              go_simp
              exact hK _ _ (SpR.refl _) rfl
            refine PlanG.det 10 rfl (SpR.refl) ?_
            apply Exists.intro
            refine ⟨fun vs x hR hF K hK => ?_, ?_⟩
            · clear hF
              go_simp
              exact hK _ _ (SpR.refl _) rfl
            refine PlanG.det 11 rfl (SpR.refl) ?_
            apply Exists.intro
            refine ⟨fun vs x hR hF K hK => ?_, ?_⟩
            · have f8 := hF 1 _ _ rfl rfl; have f9 := hF 0 _ _ rfl rfl; clear hF
              go_simp
              exact hK _ _ (SpR.refl _) rfl
            refine PlanG.det 12 rfl (SpR.refl) ?_
            apply Exists.intro
            refine ⟨fun vs x hR hF K hK => ?_, ?_⟩
            · have f10 := hF 0 _ _ rfl rfl; clear hF
              go_simp
              exact hK _ _ (SpR.refl _) rfl
            refine PlanG.det 13 rfl (SpR.refl) ?_
            apply Exists.intro
            refine ⟨fun vs x hR hF K hK => ?_, ?_⟩
            · have f11 := hF 0 _ _ rfl rfl; have hc := HC.out x hR; clear hF
              go_simp
              exact hK _ _ (SpR.refl _) rfl
            refine PlanG.det 14 rfl (SpR.refl) ?_
            apply Exists.intro
            refine ⟨fun vs x hR hF K hK => ?_, ?_⟩
            · clear hF
              go_simp
              exact hK _ _ (SpR.refl _) rfl
            refine PlanG.det 15 rfl (SpR.refl) ?_
            apply Exists.intro
            refine ⟨fun vs x hR hF K hK => ?_, ?_⟩
            · have f12 := hF 1 _ _ rfl rfl; have f13 := hF 0 _ _ rfl rfl; clear hF
              go_simp
              exact hK _ _ (SpR.refl _) rfl
            refine PlanG.det 16 rfl (SpR.refl) ?_
            apply Exists.intro
            refine ⟨fun vs x hR hF K hK => ?_, ?_⟩
            · have f14 := hF 0 _ _ rfl rfl; have hc := HC.out x hR; clear hF
              go_simp
              exact hK _ _ (SpR.refl _) rfl
            refine PlanG.born 17 rfl rfl (fun v x => ∃ b, v = .pointer (some ⟨b, 0, none⟩) ∧ wx.heap.size ≤ b ∧ RowOr x b [.int .i64 0, .int .i64 0] [.int .i64 (-1), .int .i64 (-1)] 46) (fun v x y hR ⟨b, h1, h2, h3⟩ => ⟨b, h1, h2, hR.rowOr h3⟩) (fun v x ⟨b, h1, h2, h3⟩ e => by have h4 := h3.lt; rw [h1] at e; injection e with e; injection e with e; injection e with e; omega) (fun vs x hR K hK => ?_) ?_
            · skip
              go_simp
              exact hK _ _ (SpR.alloc _ _) ⟨_, rfl, (by have := SpR.size hR; simpa using this), .inl (Row.at _ _ _)⟩ rfl
            refine PlanG.born 18 rfl rfl (fun v x => ∃ b, v = .pointer (some ⟨b, 0, none⟩) ∧ wx.heap.size ≤ b ∧ RowOr x b [.int .i64 0, .int .i64 0] [.int .i64 (-1), .int .i64 (-1)] 46) (fun v x y hR ⟨b, h1, h2, h3⟩ => ⟨b, h1, h2, hR.rowOr h3⟩) (fun v x ⟨b, h1, h2, h3⟩ e => by have h4 := h3.lt; rw [h1] at e; injection e with e; injection e with e; injection e with e; omega) (fun vs x hR K hK => ?_) ?_
            · skip
              go_simp
              exact hK _ _ (SpR.alloc _ _) ⟨_, rfl, (by have := SpR.size hR; simpa using this), .inl (Row.at _ _ _)⟩ rfl
            refine PlanG.link 19 rfl (SpR.refl) (fun vs x => ∃ b, vs 16 = .pointer (some ⟨b, 0, none⟩) ∧ Row x b [.int .i64 (-1), .int .i64 (-1)] 46) (fun vs x y hR ⟨b, h1, h2⟩ => ⟨b, h1, hR.row h2⟩) (fun vs vs' x hv ⟨b, h1, h2⟩ => ⟨b, (by rw [← hv 16 (.inr (by kernel_rfl))]; exact h1), h2⟩) (fun vs v x h => by simpa using h) (fun vs x hR hF K hK => ?_) ?_
            · have f0 := hF 17 _ _ rfl rfl; have f1 := hF 16 _ _ rfl rfl; have f2 := hF 15 _ _ rfl rfl; have f3 := hF 14 _ _ rfl rfl; have f4 := hF 13 _ _ rfl rfl; have f5 := hF 12 _ _ rfl rfl; have f6 := hF 11 _ _ rfl rfl; have f7 := hF 10 _ _ rfl rfl; have f16 := hF 1 _ _ rfl rfl; have f17 := hF 0 _ _ rfl rfl
              obtain ⟨b16, e16, h16, hr16⟩ := f16
              obtain ⟨z16, u0, u1, z17, z18⟩ := hr16.c2
              clear hF
              go_simp
              exact hK _ _ (SpR.store hr16 h16) ⟨b16, e16, hr16.put _ _⟩
            refine PlanG.nil (fun vs x hR hF hD => ?_)
            have hne16_17 := hD 16 17 (by decide) (by decide) (by decide)
            clear hD
            have f0 := hF 18 _ _ rfl; have f1 := hF 17 _ _ rfl; have f2 := hF 16 _ _ rfl; have f3 := hF 15 _ _ rfl; have f4 := hF 14 _ _ rfl; have f5 := hF 13 _ _ rfl; have f6 := hF 12 _ _ rfl; have f7 := hF 11 _ _ rfl; have f8 := hF 10 _ _ rfl; have f9 := hF 9 _ _ rfl; have f10 := hF 8 _ _ rfl; have f11 := hF 7 _ _ rfl; have f12 := hF 6 _ _ rfl; have f13 := hF 5 _ _ rfl; have f14 := hF 4 _ _ rfl; have f15 := hF 3 _ _ rfl; have f16 := hF 2 _ _ rfl; have f17 := hF 1 _ _ rfl; have f18 := hF 0 _ _ rfl
            clear hF
            simp only [f0, f1, f2, f3, f4, f5, f6, f7, f8, f9, f10, f11, f12, f13, f14, f15]
            clear f0 f1 f2 f3 f4 f5 f6 f7 f8 f9 f10 f11 f12 f13 f14 f15
            simp only [List.drop_succ_cons, List.drop_zero]
            obtain ⟨B3, e3, h3, -⟩ := f16
            obtain ⟨B4, e4, h4, hr4⟩ := f17
            obtain ⟨B5, e5, hr3⟩ := f18
            have e6 := e3.symm.trans e5
            injection e6 with e6
            injection e6 with e6
            injection e6 with e6
            subst e6
            have hB34 : B3 ≠ B4 := fun e => hne16_17 (by rw [e3, e4, e])
            simp only [e3, e4]
            obtain ⟨z4, u40, u41, z41, z42⟩ := hr4.c2
            have HRR := hid (⟨SpR.under hR rfl, hr3, hr4⟩ : _ ∧ _ ∧ _)
            clear hne16_17 e3 e4 e5 hR hr3 hr4 HC
            go_upto_region 16 with fail
            have HWY : Hid (Row ((x.setCell ⟨B4, 0, none⟩ (.int .i64 (-1))).setCell ⟨B4, 1, none⟩ (.int .i64 (-1))) B3 [.int .i64 (-1), .int .i64 (-1)] 46 ∧ Row ((x.setCell ⟨B4, 0, none⟩ (.int .i64 (-1))).setCell ⟨B4, 1, none⟩ (.int .i64 (-1))) B4 [.int .i64 (-1), .int .i64 (-1)] 46 ∧ Below w6.heap.size w6 ((x.setCell ⟨B4, 0, none⟩ (.int .i64 (-1))).setCell ⟨B4, 1, none⟩ (.int .i64 (-1)))) := ⟨(HRR.out.2.1.other hB34 0 _).other hB34 1 _, HRR.out.2.2.put _ _, ((HB6.out.trans (HRR.out.1.mono HB6.out.size)).setCell (by have := HB6.out.size; show _ ≤ B4; omega) _).setCell (by have := HB6.out.size; show _ ≤ B4; omega) _⟩
            generalize ((x.setCell ⟨B4, 0, none⟩ (.int .i64 (-1))).setCell ⟨B4, 1, none⟩ (.int .i64 (-1))) = wy at HWY ⊢
            have z3 := HWY.out.1.c2
            have z4 := HWY.out.2.1.c2
            go_wp2_with fail
            refine ⟨⟨k + 1, by omega, by go_num, HWY.out.2.2⟩, ?_⟩
            simp [intOf]
            omega
          · dsimp only at hyu
            obtain ⟨g1, g2, g3⟩ := hyu
            rw [show shS d.size (y1, y2) = (y1 + d.size, y2 + d.size) by unfold shS; rw [if_neg (by dsimp only; omega)]] at r2 r3
            dsimp only at r2 r3
            have HR7 := hid (⟨r0, r1, r2, r3, hbs, hbz⟩ : _ ∧ _ ∧ _ ∧ _ ∧ _ ∧ _)
            clear r0 r1 r2 r3 hbs hbz
            have HC := hid (fun (y : World) (hy0 : SpR wx.heap.size [.int .i64 0, .int .i64 0] [.int .i64 (y1), .int .i64 (y2)] 46 wx.drew y) => have hy : Below wx.heap.size wx y := hy0.under rfl; (⟨(hy.cell (p := ⟨b, i * 2 + 1, none⟩) HC7.out.2.2.1).trans HC7.out.1, (hy.cell (p := ⟨b', i * 2 + 1, none⟩) HC7.out.2.2.2).trans HC7.out.2.1, (hy.cell (p := ⟨bs, k * 2, none⟩) HR7.out.2.2.2.2.1).trans HR7.out.1, (hy.cell (p := ⟨bs, k * 2 + 1, none⟩) HR7.out.2.2.2.2.1).trans HR7.out.2.1, (hy.cell (p := ⟨bz, k * 2, none⟩) HR7.out.2.2.2.2.2).trans HR7.out.2.2.1, (hy.cell (p := ⟨bz, k * 2 + 1, none⟩) HR7.out.2.2.2.2.2).trans HR7.out.2.2.2.1⟩ : _ ∧ _ ∧ _ ∧ _ ∧ _ ∧ _))
            go_wp2_with fail
            refine wp_region_invG 19 (SpR wx.heap.size [.int .i64 0, .int .i64 0] [.int .i64 (y1), .int .i64 (y2)] 46) (by kernel_rfl) (by kernel_rfl) (SpR.refl) (fun _ _ _ => SpR.trans) ?_
            simp only [fill, dstOf, Act.put, List.take_succ_cons, List.take_zero, List.getElem?_toArray, List.getElem?_cons_zero, List.getElem?_cons_succ, Option.bind_some, List.setIfInBounds_toArray, List.set_cons_zero, List.set_cons_succ]
            refine PlanG.det 1 rfl (SpR.refl) ?_
            apply Exists.intro
            refine ⟨fun vs x hR hF K hK => ?_, ?_⟩
            · clear hF
              go_simp
              exact hK _ _ (SpR.refl _) rfl
            refine PlanG.det 2 rfl (SpR.refl) ?_
            apply Exists.intro
            refine ⟨fun vs x hR hF K hK => ?_, ?_⟩
            · clear hF
              go_simp
              exact hK _ _ (SpR.refl _) rfl
            refine PlanG.det 3 rfl (SpR.refl) ?_
            apply Exists.intro
            refine ⟨fun vs x hR hF K hK => ?_, ?_⟩
            · have f0 := hF 1 _ _ rfl rfl; have f1 := hF 0 _ _ rfl rfl; clear hF
              go_simp
              exact hK _ _ (SpR.refl _) rfl
            refine PlanG.det 4 rfl (SpR.refl) ?_
            apply Exists.intro
            refine ⟨fun vs x hR hF K hK => ?_, ?_⟩
            · have f2 := hF 0 _ _ rfl rfl; clear hF
              go_simp
              exact hK _ _ (SpR.refl _) rfl
            refine PlanG.det 5 rfl (SpR.refl) ?_
            apply Exists.intro
            refine ⟨fun vs x hR hF K hK => ?_, ?_⟩
            · have f3 := hF 0 _ _ rfl rfl; have hc := HC.out x hR; clear hF
              go_simp
              exact hK _ _ (SpR.refl _) rfl
            refine PlanG.det 6 rfl (SpR.refl) ?_
            apply Exists.intro
            refine ⟨fun vs x hR hF K hK => ?_, ?_⟩
            · clear hF
              go_simp
              exact hK _ _ (SpR.refl _) rfl
            refine PlanG.det 7 rfl (SpR.refl) ?_
            apply Exists.intro
            refine ⟨fun vs x hR hF K hK => ?_, ?_⟩
            · have f4 := hF 1 _ _ rfl rfl; have f5 := hF 0 _ _ rfl rfl; clear hF
              go_simp
              exact hK _ _ (SpR.refl _) rfl
            refine PlanG.det 8 rfl (SpR.refl) ?_
            apply Exists.intro
            refine ⟨fun vs x hR hF K hK => ?_, ?_⟩
            · have f6 := hF 0 _ _ rfl rfl; have hc := HC.out x hR; clear hF
              go_simp
              exact hK _ _ (SpR.refl _) rfl
            refine PlanG.det 9 rfl (SpR.refl) ?_
            apply Exists.intro
            refine ⟨fun vs x hR hF K hK => ?_, ?_⟩
            · clear hF
              go_simp
              exact hK _ _ (SpR.refl _) rfl
            refine PlanG.det 10 rfl (SpR.refl) ?_
            apply Exists.intro
            refine ⟨fun vs x hR hF K hK => ?_, ?_⟩
            · clear hF
              go_simp
              exact hK _ _ (SpR.refl _) rfl
            refine PlanG.det 11 rfl (SpR.refl) ?_
            apply Exists.intro
            refine ⟨fun vs x hR hF K hK => ?_, ?_⟩
            · have f8 := hF 1 _ _ rfl rfl; have f9 := hF 0 _ _ rfl rfl; clear hF
              go_simp
              exact hK _ _ (SpR.refl _) rfl
            refine PlanG.det 12 rfl (SpR.refl) ?_
            apply Exists.intro
            refine ⟨fun vs x hR hF K hK => ?_, ?_⟩
            · have f10 := hF 0 _ _ rfl rfl; clear hF
              go_simp
              exact hK _ _ (SpR.refl _) rfl
            refine PlanG.det 13 rfl (SpR.refl) ?_
            apply Exists.intro
            refine ⟨fun vs x hR hF K hK => ?_, ?_⟩
            · have f11 := hF 0 _ _ rfl rfl; have hc := HC.out x hR; clear hF
              go_simp
              exact hK _ _ (SpR.refl _) rfl
            refine PlanG.det 14 rfl (SpR.refl) ?_
            apply Exists.intro
            refine ⟨fun vs x hR hF K hK => ?_, ?_⟩
            · clear hF
              go_simp
              exact hK _ _ (SpR.refl _) rfl
            refine PlanG.det 15 rfl (SpR.refl) ?_
            apply Exists.intro
            refine ⟨fun vs x hR hF K hK => ?_, ?_⟩
            · have f12 := hF 1 _ _ rfl rfl; have f13 := hF 0 _ _ rfl rfl; clear hF
              go_simp
              exact hK _ _ (SpR.refl _) rfl
            refine PlanG.det 16 rfl (SpR.refl) ?_
            apply Exists.intro
            refine ⟨fun vs x hR hF K hK => ?_, ?_⟩
            · have f14 := hF 0 _ _ rfl rfl; have hc := HC.out x hR; clear hF
              go_simp
              exact hK _ _ (SpR.refl _) rfl
            refine PlanG.born 17 rfl rfl (fun v x => ∃ b, v = .pointer (some ⟨b, 0, none⟩) ∧ wx.heap.size ≤ b ∧ RowOr x b [.int .i64 0, .int .i64 0] [.int .i64 (y1), .int .i64 (y2)] 46) (fun v x y hR ⟨b, h1, h2, h3⟩ => ⟨b, h1, h2, hR.rowOr h3⟩) (fun v x ⟨b, h1, h2, h3⟩ e => by have h4 := h3.lt; rw [h1] at e; injection e with e; injection e with e; injection e with e; omega) (fun vs x hR K hK => ?_) ?_
            · skip
              go_simp
              exact hK _ _ (SpR.alloc _ _) ⟨_, rfl, (by have := SpR.size hR; simpa using this), .inl (Row.at _ _ _)⟩ rfl
            refine PlanG.born 18 rfl rfl (fun v x => ∃ b, v = .pointer (some ⟨b, 0, none⟩) ∧ wx.heap.size ≤ b ∧ RowOr x b [.int .i64 0, .int .i64 0] [.int .i64 (y1), .int .i64 (y2)] 46) (fun v x y hR ⟨b, h1, h2, h3⟩ => ⟨b, h1, h2, hR.rowOr h3⟩) (fun v x ⟨b, h1, h2, h3⟩ e => by have h4 := h3.lt; rw [h1] at e; injection e with e; injection e with e; injection e with e; omega) (fun vs x hR K hK => ?_) ?_
            · skip
              go_simp
              exact hK _ _ (SpR.alloc _ _) ⟨_, rfl, (by have := SpR.size hR; simpa using this), .inl (Row.at _ _ _)⟩ rfl
            refine PlanG.link 19 rfl (SpR.refl) (fun vs x => ∃ b, vs 16 = .pointer (some ⟨b, 0, none⟩) ∧ Row x b [.int .i64 (y1), .int .i64 (y2)] 46) (fun vs x y hR ⟨b, h1, h2⟩ => ⟨b, h1, hR.row h2⟩) (fun vs vs' x hv ⟨b, h1, h2⟩ => ⟨b, (by rw [← hv 16 (.inr (by kernel_rfl))]; exact h1), h2⟩) (fun vs v x h => by simpa using h) (fun vs x hR hF K hK => ?_) ?_
            · have f0 := hF 17 _ _ rfl rfl; have f1 := hF 16 _ _ rfl rfl; have f2 := hF 15 _ _ rfl rfl; have f3 := hF 14 _ _ rfl rfl; have f4 := hF 13 _ _ rfl rfl; have f5 := hF 12 _ _ rfl rfl; have f6 := hF 11 _ _ rfl rfl; have f7 := hF 10 _ _ rfl rfl; have f16 := hF 1 _ _ rfl rfl; have f17 := hF 0 _ _ rfl rfl
              obtain ⟨b16, e16, h16, hr16⟩ := f16
              obtain ⟨z16, u0, u1, z17, z18⟩ := hr16.c2
              clear hF
              go_simp
              exact hK _ _ (SpR.store hr16 h16) ⟨b16, e16, hr16.put _ _⟩
            refine PlanG.nil (fun vs x hR hF hD => ?_)
            have hne16_17 := hD 16 17 (by decide) (by decide) (by decide)
            clear hD
            have f0 := hF 18 _ _ rfl; have f1 := hF 17 _ _ rfl; have f2 := hF 16 _ _ rfl; have f3 := hF 15 _ _ rfl; have f4 := hF 14 _ _ rfl; have f5 := hF 13 _ _ rfl; have f6 := hF 12 _ _ rfl; have f7 := hF 11 _ _ rfl; have f8 := hF 10 _ _ rfl; have f9 := hF 9 _ _ rfl; have f10 := hF 8 _ _ rfl; have f11 := hF 7 _ _ rfl; have f12 := hF 6 _ _ rfl; have f13 := hF 5 _ _ rfl; have f14 := hF 4 _ _ rfl; have f15 := hF 3 _ _ rfl; have f16 := hF 2 _ _ rfl; have f17 := hF 1 _ _ rfl; have f18 := hF 0 _ _ rfl
            clear hF
            simp only [f0, f1, f2, f3, f4, f5, f6, f7, f8, f9, f10, f11, f12, f13, f14, f15]
            clear f0 f1 f2 f3 f4 f5 f6 f7 f8 f9 f10 f11 f12 f13 f14 f15
            simp only [List.drop_succ_cons, List.drop_zero]
            obtain ⟨B3, e3, h3, -⟩ := f16
            obtain ⟨B4, e4, h4, hr4⟩ := f17
            obtain ⟨B5, e5, hr3⟩ := f18
            have e6 := e3.symm.trans e5
            injection e6 with e6
            injection e6 with e6
            injection e6 with e6
            subst e6
            have hB34 : B3 ≠ B4 := fun e => hne16_17 (by rw [e3, e4, e])
            simp only [e3, e4]
            obtain ⟨z4, u40, u41, z41, z42⟩ := hr4.c2
            have HRR := hid (⟨SpR.under hR rfl, hr3, hr4⟩ : _ ∧ _ ∧ _)
            clear hne16_17 e3 e4 e5 hR hr3 hr4 HC
            go_upto_region 16 with fail
            have HWY : Hid (Row ((x.setCell ⟨B4, 0, none⟩ (.int .i64 (y1 + d.size))).setCell ⟨B4, 1, none⟩ (.int .i64 (y2 + d.size))) B3 [.int .i64 (y1), .int .i64 (y2)] 46 ∧ Row ((x.setCell ⟨B4, 0, none⟩ (.int .i64 (y1 + d.size))).setCell ⟨B4, 1, none⟩ (.int .i64 (y2 + d.size))) B4 [.int .i64 (y1 + d.size), .int .i64 (y2 + d.size)] 46 ∧ Below w6.heap.size w6 ((x.setCell ⟨B4, 0, none⟩ (.int .i64 (y1 + d.size))).setCell ⟨B4, 1, none⟩ (.int .i64 (y2 + d.size)))) := ⟨(HRR.out.2.1.other hB34 0 _).other hB34 1 _, HRR.out.2.2.put _ _, ((HB6.out.trans (HRR.out.1.mono HB6.out.size)).setCell (by have := HB6.out.size; show _ ≤ B4; omega) _).setCell (by have := HB6.out.size; show _ ≤ B4; omega) _⟩
            generalize ((x.setCell ⟨B4, 0, none⟩ (.int .i64 (y1 + d.size))).setCell ⟨B4, 1, none⟩ (.int .i64 (y2 + d.size))) = wy at HWY ⊢
            have z3 := HWY.out.1.c2
            have z4 := HWY.out.2.1.c2
            have hw3 : IntKind.i64.wrap (y1 + (d.size : Int)) = y1 + (d.size : Int) := by rw [IntKind.wrap_i64]; omega
            have hw4 : IntKind.i64.wrap (y2 + (d.size : Int)) = y2 + (d.size : Int) := by rw [IntKind.wrap_i64]; omega
            have hw6 : w6.heap.size ≤ B3 := by have := HB6.out.size; omega
            go_wp2_with fail
            refine ⟨⟨k + 1, by omega, by go_num, (HWY.out.2.2.setCell hw6 _).setCell hw6 _⟩, ?_⟩
            simp [intOf]
            omega
        · have hlkI : ¬ (k : Int) < (gl : Int) := by omega
          have HZE : Hid (Below w4.heap.size w4 wx) := (HB.out.trans (HB1.out.mono HB.out.size)).trans (HB6.out.mono (HB.out.trans (HB1.out.mono HB.out.size)).size)
          go_wp2_with fail
          refine ⟨⟨i + 1, by omega, by go_num, HZE.out⟩, ?_⟩
          simp [intOf]
          omega
    · have hltI : ¬ (i : Int) < (n : Int) := by omega
      go_wp2_with fail
      refine (HAW.out _ HL5.out.1).mono ?_
      rintro e w9 ⟨rfl, hb⟩
      have HB9 := hid hb
      clear hb
      go_wp2_with fail
      all_goals (try go_ret)
      all_goals exact ⟨rfl, HB9.out⟩
end Go.Proofs.YtkinnfejgpnddaaDoor
