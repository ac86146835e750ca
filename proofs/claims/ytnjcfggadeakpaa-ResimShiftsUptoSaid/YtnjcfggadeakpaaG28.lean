/- The program's Threads. -/
import Derived.Test.YtnjcfggadeakpaaG26
import Derived.Test.YtnjcfggadeakpaaG16
import Derived.Test.YtnjcfggadeakpaaG27
import Derived.Sort.OwnSortedInts
namespace Go.Proofs.Ytnjcfggadeakpaa
open Go.RowKit Go.Sort
attribute [local go_sem] gives givesUpon

theorem info_intT : (Try.prog.info? 3).map (fun i => (i.zero, i.size, i.bytes)) = some (some (.int .i64 0), 1, 8) := by kernel_rfl
/-- A row of numbers of the call's own, sorted by the library. -/
theorem sort_row {w : World} {base : Nat} {a : Option Addr} {n c : Nat} {K : List Nat} (h : w.ownsRow base 3 1 (.slice a n c) n (K.map natV)) (hn : K.Nodup) (hl : n ≤ 1000000) :
    Calls Try.prog 26 #[.slice a n c] w fun e w' => e = .returned (.tuple #[]) ∧ w.grownBy w' (Value.slice a n c).ownBlock ∧ ∃ ts : List Nat, ts.Pairwise (· < ·) ∧ (∀ k, k ∈ ts ↔ k ∈ K) ∧ ts.length = n ∧ w'.ownsRow base 3 1 (.slice a n c) n (ts.map natV) := by
  have hlen : K.length = n := by have h1 := h.1; simpa using h1
  rcases h.2 with ⟨hv, h0⟩ | ⟨g, cap, cur, hv, hg, hcur, hnc, hcm, hsz, hxs⟩
  · injection hv with e1 e2 e3
    subst e1 e2 e3
    obtain rfl : K = [] := List.length_eq_zero_iff.1 hlen
    refine (Try.slices_Sort_int_none none 0 w).mono ?_
    rintro e w' ⟨rfl, rfl⟩
    exact ⟨rfl, ⟨rfl, rfl, rfl, Nat.le_refl _, fun _ _ _ => rfl⟩, [], List.Pairwise.nil, fun k => Iff.rfl, rfl, World.ownsRow_nil _ _ _ _⟩
  · injection hv with e1 e2 e3
    subst e1 e3
    obtain ⟨ts, hts, hasc, hmem, htl⟩ := sorted_nat K hn
    have ezs : K.map natV = (K.map fun (k : Nat) => (k : Int)).map (Value.int .i64) := by rw [List.map_map]; rfl
    have ets : ts.map natV = (ts.map fun (k : Nat) => (k : Int)).map (Value.int .i64) := by rw [List.map_map]; rfl
    have hzl : (K.map fun (k : Nat) => (k : Int)).length = n := by rw [List.length_map, hlen]
    have htake : cur.toList.take (K.map fun (k : Nat) => (k : Int)).length = (K.map fun (k : Nat) => (k : Int)).map (Value.int .i64) := by
      rw [hzl, ← ezs, ← hxs, Nat.mul_one]
    have hS := Try.slices_Sort_int g 0 c (K.map fun (k : Nat) => (k : Int)) w (holds_of_blockI hcur htake) (Array.getElem?_eq_some_iff.1 hcur).1 (by omega)
    rw [hzl] at hS
    refine hS.mono ?_
    rintro e w' ⟨rfl, m, os, rfl⟩
    rw [hts]
    refine ⟨rfl, grownBy_sortedI _, ts, hasc, hmem, by omega, ?_⟩
    have h2 := ownsRow_sortedI (w := w) (base := base) (n := m) (os := os) (ss := K.map fun (k : Nat) => (k : Int)) (ts := ts.map fun (k : Nat) => (k : Int)) (by simp [htl]) hg hcur (by omega) hcm hsz
    rw [hzl, ← ets] at h2
    exact h2

/-- What Threads leaves. -/
def ThPost (m : Sim) (w : World) (at_ d : Int) (e : Ending) (w' : World) : Prop :=
  Below w.heap.size w w' ∧ ∃ (v : Value) (ts : List Nat), e = .returned v ∧ IsTh m at_ d ts ∧ w'.ownsRow w.heap.size 3 1 v ts.length (ts.map natV)
theorem Sgl.is {wb w0 w : World} {m : Sim} {M : Nat} {a : Option Addr} {c : Nat} {str : ByteArray} {f i : Nat} {st : Int} {lv : Value} {T : List (Nat × Nat)} {ts : List Nat} (h : Sgl wb w0 m M a c str f i st lv T w) (hr : rightAll m.L) (hf : f ≤ i) (hi : i ≤ m.s.length) (h1 : ts.Pairwise (· < ·)) (h2 : ∀ k, k ∈ ts ↔ k ∈ T.map Prod.fst) : IsTh m f i ts := by
  obtain ⟨mk, sv, St, hR, ht, -, -⟩ := h
  refine ⟨h1, fun k => ?_⟩
  rw [h2, ht.mem]
  constructor
  · intro h3
    exact ⟨hr, by omega, by omega, by omega, h3.1, by simpa using h3.2⟩
  · rintro ⟨-, -, -, -, h3, h4⟩
    exact ⟨h3, by simpa using h4⟩
set_option maxRecDepth 100000 in
set_option maxHeartbeats 16000000 in
theorem Threads_any (w : World) (m : Sim) (a : Option Addr) (c : Nat) (str : ByteArray) (at_ d : Int) (h : Pre w m a str) :
    Calls Try.prog 13 #[.agg #[.slice a m.L.length c, .bool m.lines], .string str, .int .i64 at_, .int .i64 d] w (ThPost m w at_ d) := by
  have hsz := size_eq h.s
  have HPN : Hid (∀ w', Below w.heap.size w w' → (¬ rightAll m.L ∨ at_ < 0 ∨ (str.size : Int) < d ∨ d < at_) → ThPost m w at_ d (.returned (.slice none 0 0)) w') := fun w' h1 h2 => ⟨h1, _, [], rfl, IsTh.nil (by rw [hsz]; exact h2), World.ownsRow_nil _ _ _ _⟩
  have HPY : Hid (∀ w' v ts, Below w.heap.size w w' → IsTh m at_ d ts → w'.ownsRow w.heap.size 3 1 v ts.length (ts.map natV) → ThPost m w at_ d (.returned v) w') := fun w' v ts h1 h2 h3 => ⟨h1, v, ts, rfl, h2, h3⟩
  have HSZ := hid hsz
  clear hsz
  generalize ThPost m w at_ d = PP at *
  have hshort := h.short
  have hfew := h.few
  have HBX : Hid (Row (w.alloc (.cells #[.slice a m.L.length c, .bool m.lines] 24)) w.heap.size [.slice a m.L.length c, .bool m.lines] 24) := Row.at w [.slice a m.L.length c, .bool m.lines] _
  have HB0 : Hid (Below w.heap.size w (w.alloc (.cells #[.slice a m.L.length c, .bool m.lines] 24))) := Grow.alloc w _
  have HPR := hid (h.below HB0.out)
  clear h
  have HS := hid (simulate_any (w.alloc (.cells #[.slice a m.L.length c, .bool m.lines] 24)) m a c str HPR.out.ins HPR.out.few)
  go_enter Try.func13, Try.ntmps13
  go_upto_region 1 with fail
  generalize w.alloc (.cells #[.slice a m.L.length c, .bool m.lines] 24) = w1 at *
  have q : w1.cell? ⟨w.heap.size, 0, none⟩ = some (.slice a m.L.length c) ∧ w1.cell? ⟨w.heap.size, 1, none⟩ = some (.bool m.lines) := ⟨HBX.out.cell 0, HBX.out.cell 1⟩
  have HBL : Hid (w.heap.size < w1.heap.size) := HBX.out.lt
  have HW1 : Hid (w.heap.size ≤ w1.heap.size) := Nat.le_of_lt HBL.out
  generalize hb0 : w.heap.size = b0 at q HBX HBL
  go_wp2_with fail
  refine HS.out.mono ?_
  rintro e w2 (⟨hnr, rfl, hb2⟩ | ⟨hr, M, rfl, hr2, hb2⟩)
  · have HB2 := hid (HB0.out.trans (hb2.mono HW1.out))
    have HNR := hid hnr
    clear hb2 hnr
    go_wp2_with fail
    all_goals (try go_ret)
    all_goals exact HPN.out _ HB2.out (.inl HNR.out)
  have HB2 := hid (HB0.out.trans (hb2.mono HW1.out))
  have HR2 := hid hr2
  have HRI := hid hr
  have HE := hid (HPR.out.env hr)
  clear hb2 hr2 hr
  rcases Int.lt_or_le at_ 0 with h0 | h0
  · go_wp2_with fail
    all_goals (try go_ret)
    all_goals exact HPN.out _ HB2.out (.inr (.inl h0))
  rcases Int.lt_or_le (str.size : Int) d with h1 | h1
  · go_wp2_with fail
    all_goals (try go_ret)
    all_goals exact HPN.out _ HB2.out (.inr (.inr (.inl h1)))
  rcases Int.lt_or_le d at_ with h2 | h2
  · go_wp2_with fail
    all_goals (try go_ret)
    all_goals exact HPN.out _ HB2.out (.inr (.inr (.inr h2)))
  obtain ⟨f, rfl⟩ := Int.eq_ofNat_of_zero_le h0
  obtain ⟨dn, rfl⟩ := Int.eq_ofNat_of_zero_le (show 0 ≤ d by omega)
  have q2 := HR2.out.sim.cells
  have z2 := HR2.out.sim.lt
  have f2 := HR2.out.sim.free
  have HR3 := hid (HR2.out.step 1)
  have hfs : f ≤ str.size := by omega
  have hfd : f ≤ dn := by omega
  have hds : dn ≤ str.size := by omega
  have HF := hid (sgl_first w1 w2 (w2.setCell ⟨M, 4099, none⟩ (.int .i64 1)) m M a c str f HE.out HR3.out hfs)
  clear q
  go_wp2_with fail
  generalize w2.setCell ⟨M, 4099, none⟩ (.int .i64 1) = w3 at *
  refine HF.out.mono ?_
  rintro e w4 ⟨lv, T0, rfl, hsg⟩
  obtain ⟨la0, lc0, hla0⟩ : ∃ la lc, lv = .slice la T0.length lc := by
    obtain ⟨mk, sv, St, h1, -⟩ := id hsg
    exact ownsRow_shape h1.lst
  subst hla0
  have HSG := hid hsg
  clear hsg q2 z2 f2 HF HR3 HR2
  go_wp2_with fail
  go_loopw [10, 11] (fun vl vi wr => ∃ (i : Nat) (la : Option Addr) (lc : Nat) (T : List (Nat × Nat)), i ≤ dn ∧ f ≤ i ∧ vi = .int .i64 i ∧ vl = .slice la T.length lc ∧ Hid (Sgl w1 w2 m M a c str f i ((i : Int) - f + 1) (.slice la T.length lc) T wr)) (fun _ vi _ => dn - (intOf vi).toNat)
  case atStart =>
    refine ⟨f, la0, lc0, T0, hfd, Nat.le_refl _, rfl, rfl, ?_⟩
    rw [show (f : Int) - f + 1 = 1 by omega]
    exact HSG.out
  case round =>
    obtain ⟨i, la, lc, T, hi, hfi, rfl, rfl, HSG⟩ := hrel
    rcases Nat.lt_or_ge i dn with hid1 | hid1
    · have HNX := hid (sgl_next w1 w2 wr m M a c str f i ((i : Int) - f + 1) (.slice la T.length lc) T HE.out HSG.out hfi (by omega) (by omega))
      go_wp2_with fail
      refine HNX.out.mono ?_
      rintro e w5 ⟨lv5, T5, rfl, hsg5⟩
      obtain ⟨la5, lc5, hla5⟩ : ∃ la lc, lv5 = .slice la T5.length lc := by
        obtain ⟨mk, sv, St, h1, -⟩ := id hsg5
        exact ownsRow_shape h1.lst
      subst hla5
      rw [show (i : Int) - f + 1 + 1 = ((i + 1 : Nat) : Int) - f + 1 by omega] at hsg5
      have HSG5 := hid hsg5
      clear hsg5 HNX
      go_wp2_with fail
      all_goals
        refine ⟨⟨i + 1, la5, lc5, T5, hid1, by omega, rfl, rfl, HSG5.out⟩, ?_⟩
        show dn - ((i : Int) + 1).toNat < dn - (i : Int).toNat
        omega
    obtain rfl : i = dn := by omega
    have HLW : Hid (Below b0 w wr) := by
      obtain ⟨mk, sv, St, hr, -, -, -⟩ := id HSG.out
      have h5 := HB0.out.trans (hr.low.mono HW1.out)
      rw [hb0] at h5
      exact h5
    have hTl : T.length ≤ 4096 := by
      obtain ⟨_, _, _, _, _, _, h⟩ := HSG.out
      omega
    have HND : Hid (T.map Prod.fst).Nodup := by
      obtain ⟨_, _, _, _, ht, _, _⟩ := id HSG.out
      exact ht.nd
    have HLL : Hid (b0 ≤ wr.heap.size) := Nat.le_trans (Nat.le_of_lt HBL.out) (by
      obtain ⟨mk, sv, St, hr, -, -, -⟩ := id HSG.out
      exact hr.low.size)
    obtain ⟨BB, hBB⟩ : ∃ B, B = wr.heap.size := ⟨_, rfl⟩
    rw [← hBB] at HLL
    have HBB := hid hBB
    clear hBB
    go_wp2_with fail
    go_loopw [12, 58] (fun vo ix w6 => ∃ (q : Nat) (ao : Option Addr) (co : Nat), q ≤ T.length ∧ ix = .int .i64 q ∧ vo = .slice ao q co ∧ Hid (Below wr.heap.size wr w6 ∧ Below b0 w w6 ∧ BB ≤ w6.heap.size ∧ w6.ownsRow BB 3 1 (.slice ao q co) q (((T.take q).map Prod.fst).map natV))) (fun _ ix _ => T.length - (intOf ix).toNat)
    case atStart => exact ⟨0, none, 0, by omega, rfl, rfl, Below.refl _ _, HLW.out, by rw [HBB.out]; exact Nat.le_refl _, World.ownsRow_nil _ _ _ _⟩
    case round =>
      obtain ⟨q, ao, co, hq, rfl, rfl, HO⟩ := hrel
      rcases Nat.lt_or_ge q T.length with hlt | hge
      · have HS2 := hid (HSG.out.more HO.out.1)
        obtain ⟨mk, sv, St, hr, ht, -, -⟩ := id HS2.out
        have hkn : T[q].1 < m.L.length := ht.lt HE.out.right (List.getElem_mem hlt)
        obtain ⟨tg, htg, htz, htc⟩ : ∃ g, la = some ⟨g, 0, none⟩ ∧ g < wr.heap.size ∧ (wr.cell? ⟨g, q * 2, none⟩ = some (.int .i64 (T[q].1 : Nat)) ∧ wr.cell? ⟨g, q * 2 + 1, none⟩ = some (.int .i64 (T[q].2 : Nat))) := by
          obtain ⟨-, h2⟩ := id hr.lst
          rcases h2 with ⟨-, h2⟩ | ⟨g, cap, cur, hv, -⟩
          · omega
          · injection hv with e1
            subst e1
            refine ⟨g, rfl, (hr.lst.lt g rfl).2, ?_, ?_⟩
            · have h1 := World.ownsRow.cells hr.lst (g := g) rfl (q * 2) (.int .i64 (T[q].1 : Nat)) (by have h0 := flatT_get T q 0 hlt (by omega); rw [Nat.add_zero] at h0; rw [h0]; rfl)
              rw [Addr.add_lit, Nat.zero_add] at h1
              exact h1
            · have h1 := World.ownsRow.cells hr.lst (g := g) rfl (q * 2 + 1) (.int .i64 (T[q].2 : Nat)) (by rw [flatT_get T q 1 hlt (by omega)]; rfl)
              rw [Addr.add_lit, Nat.zero_add] at h1
              exact h1
        subst htg
        obtain ⟨tc0, tc1⟩ := htc
        have HTK : Hid (((T.take (q + 1)).map Prod.fst).map natV = ((T.take q).map Prod.fst).map natV ++ [.int .i64 (T[q].1 : Nat)]) := by
          show _ = _
          rw [List.take_add_one, List.getElem?_eq_getElem hlt, List.map_append, List.map_append]
          rfl
        clear hr ht
        generalize T[q] = t at *
        obtain ⟨k, fr⟩ := t
        simp only at tc0 tc1 hkn HTK
        have hqI : (q : Int) < (T.length : Int) := by omega
        generalize ((T.take q).map Prod.fst).map natV = XS at *
        have HG : Hid (Below wr.heap.size wr (wr.alloc (.cells #[.int .i64 k, .int .i64 fr] 65)) ∧ Row (wr.alloc (.cells #[.int .i64 k, .int .i64 fr] 65)) wr.heap.size [.int .i64 k, .int .i64 fr] 65) := ⟨Grow.alloc wr _, Row.at wr [.int .i64 k, .int .i64 fr] _⟩
        have HY : Hid (Below b0 w (wr.alloc (.cells #[.int .i64 k, .int .i64 fr] 65)) ∧ (wr.alloc (.cells #[.int .i64 k, .int .i64 fr] 65)).ownsRow BB 3 1 (.slice ao q co) q XS) := by
          refine ⟨HO.out.2.1.trans (HG.out.1.mono (Nat.le_trans HLL.out HO.out.2.2.1)), ownsRow_heap HO.out.2.2.2 fun g hg => HG.out.1.block g (HO.out.2.2.2.lt g hg).2⟩
        have HYR := hid (HO.out.1.trans (HG.out.1.mono HO.out.1.size))
        have HYB : Hid (BB ≤ (wr.alloc (.cells #[.int .i64 k, .int .i64 fr] 65)).heap.size) := Nat.le_trans HO.out.2.2.1 HG.out.1.size
        have qk : (wr.alloc (.cells #[.int .i64 k, .int .i64 fr] 65)).cell? ⟨wr.heap.size, 0, none⟩ = some (.int .i64 k) := HG.out.2.cell 0
        go_upto_region 14 with fail
        clear tc0 tc1 HS2 HO HG
        generalize wr.alloc (.cells #[.int .i64 k, .int .i64 fr] 65) = y at *
        generalize wr.heap.size = bt at *
        obtain ⟨i0, hi, hz0, hz1, hz2⟩ := info_parts info_intT
        have HAL : Hid (Below y.heap.size y (y.alloc (.cells #[.int .i64 k] 3))) := Grow.alloc y _
        have HOA : Hid ((y.alloc (.cells #[.int .i64 k] 3)).ownsRow BB 3 1 (.slice ao q co) q XS) := ownsRow_heap HY.out.2 fun g hg => HAL.out.block g (HY.out.2.lt g hg).2
        go_wp2_with (at_builtin; refine wpList_append_row rfl _ _ 35 rfl BB 3 i0 (.int .i64 0) 1 8 Try.underlying35 hi hz0 hz1 hz2 rfl (by decide) _ q XS rfl HOA.out ⟨y.heap.size, 0, none⟩ 1 1 [.int .i64 k] rfl rfl ?c1 ?c2 ?c3 ?c4 ?c5 (by decide) ?_)
        case c1 =>
          intro j u hj
          rw [Addr.add_lit, Nat.zero_add]
          exact (Row.new (w := y) (cs := [.int .i64 k]) (T := 3) rfl).cell j ▸ hj
        case c2 => intro u hu; simp at hu; subst hu; rfl
        case c3 => unfold maxLen; omega
        case c4 => omega
        case c5 => have := HYB.out; simp; omega
        intro a2 c2 w3 hown hgrow hnw
        have hlo : ∀ j, (Value.slice ao q co).ownBlock = some j → BB ≤ j := fun j hj => (HOA.out.lt j hj).1
        have HR3 := hid ((HYR.out.trans (HAL.out.mono HYR.out.size)).grown hgrow (by have h1 := HYB.out; have h2 := HAL.out.size; rw [← HBB.out]; omega) (fun j hj => by rw [← HBB.out]; exact hlo j hj))
        have HL3 := hid ((HY.out.1.trans (HAL.out.mono (Nat.le_trans HLL.out HYB.out))).grown hgrow (by have h1 := HYB.out; have h2 := HAL.out.size; have h3 := HLL.out; omega) (fun j hj => Nat.le_trans HLL.out (hlo j hj)))
        have HZ3 : Hid (BB ≤ w3.heap.size) := by have h1 := HYB.out; have h2 := HAL.out.size; have h3 := hgrow.size; show _ ≤ _; omega
        rw [← HTK.out] at hown
        have HO3 := hid hown
        clear hown hgrow hnw hlo HY HYR HOA HAL hi hz0 hz1 hz2
        go_wp2_with fail
        all_goals
          refine ⟨⟨q + 1, a2, c2, hlt, rfl, rfl, HR3.out, HL3.out, HZ3.out, HO3.out⟩, ?_⟩
          show T.length - ((q : Int) + 1).toNat < T.length - (q : Int).toNat
          omega
      · obtain rfl : q = T.length := by omega
        rw [List.take_length] at HO
        have HST := hid (sort_row HO.out.2.2.2 HND.out (by omega))
        have HIS := hid (fun ts h1 h2 => HSG.out.is (ts := ts) HRI.out hfi (by rw [HSZ.out]; exact hds) h1 h2)
        go_wp2_with fail
        refine HST.out.mono ?_
        rintro e w7 ⟨rfl, hg, ts, hasc, hmem, htl, hown⟩
        have HB7 := hid (HO.out.2.1.grown hg (Nat.le_trans HLL.out HO.out.2.2.1) (fun j hj => Nat.le_trans HLL.out (HO.out.2.2.2.lt j hj).1))
        have HI7 := hid (HIS.out ts hasc hmem)
        have HO7 := hid (ownsRow_base hown HLL.out)
        clear hg hasc hmem hown HIS HST
        go_wp2_with fail
        all_goals (try go_ret)
        subst hb0
        refine HPY.out _ _ ts HB7.out HI7.out ?_
        rw [htl]
        exact HO7.out
end Go.Proofs.Ytnjcfggadeakpaa
