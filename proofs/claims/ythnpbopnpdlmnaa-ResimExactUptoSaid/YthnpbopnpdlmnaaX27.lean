/- The program's Threads. -/
import Derived.Test.YthnpbopnpdlmnaaX21
import Derived.Test.YthnpbopnpdlmnaaX22
import Derived.Test.YthnpbopnpdlmnaaX26
import Derived.Sort.OwnSortedInts
import Derived.Test.YthnpbopnpdlmnaaX13
namespace Go.Proofs.Ythnpbopnpdlmnaa
open Go.RowKit Go.Sort
attribute [local go_sem] gives givesUpon

theorem info_intT : (Try.prog.info? 3).map (fun i => (i.zero, i.size, i.bytes)) = some (some (.int .i64 0), 1, 8) := by kernel_rfl
theorem sort_row {w : World} {base : Nat} {a : Option Addr} {n c : Nat} {K : List Nat} (h : w.ownsRow base 3 1 (.slice a n c) n (K.map natV)) (hn : K.Nodup) (hl : n ≤ 1000000) :
    Calls Try.prog 62 #[.slice a n c] w fun e w' => e = .returned (.tuple #[]) ∧ w.grownBy w' (Value.slice a n c).ownBlock ∧ ∃ ts : List Nat, ts.Pairwise (· < ·) ∧ (∀ k, k ∈ ts ↔ k ∈ K) ∧ ts.length = n ∧ w'.ownsRow base 3 1 (.slice a n c) n (ts.map natV) := by
  have hlen : K.length = n := by have h1 := h.1; simpa using h1
  rcases h.2 with ⟨hv, h0⟩ | ⟨g, cap, cur, hv, hg, hcur, hnc, hcm, hsz, hxs⟩
  · injection hv with e1 e2 e3
    subst e1 e2 e3
    obtain rfl : K = [] := List.length_eq_zero_iff.1 hlen
    refine (Try.slices_Sort_int_none none 0 w).mono ?_
    rintro e w' ⟨rfl, rfl⟩
    exact ⟨rfl, ⟨rfl, rfl, rfl, Nat.le_refl _, fun _ _ _ => rfl⟩, [], List.Pairwise.nil, fun k => Iff.rfl, rfl, World.ownsRow_nil _ _ _ _⟩
  · injection hv with e1 e2 e3
    subst e1 e3
    obtain ⟨ts, hts, hasc, hmem, htl⟩ := sorted_nat K hn
    have ezs : K.map natV = (K.map fun (k : Nat) => (k : Int)).map (Value.int .i64) := by rw [List.map_map]; rfl
    have ets : ts.map natV = (ts.map fun (k : Nat) => (k : Int)).map (Value.int .i64) := by rw [List.map_map]; rfl
    have hzl : (K.map fun (k : Nat) => (k : Int)).length = n := by rw [List.length_map, hlen]
    have htake : cur.toList.take (K.map fun (k : Nat) => (k : Int)).length = (K.map fun (k : Nat) => (k : Int)).map (Value.int .i64) := by
      rw [hzl, ← ezs, ← hxs, Nat.mul_one]
    have hS := Try.slices_Sort_int g 0 c (K.map fun (k : Nat) => (k : Int)) w (holds_of_blockI hcur htake) (Array.getElem?_eq_some_iff.1 hcur).1 (by omega)
    rw [hzl] at hS
    refine hS.mono ?_
    rintro e w' ⟨rfl, m, os, rfl⟩
    rw [hts]
    refine ⟨rfl, grownBy_sortedI _, ts, hasc, hmem, by omega, ?_⟩
    have h2 := ownsRow_sortedI (w := w) (base := base) (n := m) (os := os) (ss := K.map fun (k : Nat) => (k : Int)) (ts := ts.map fun (k : Nat) => (k : Int)) (by simp [htl]) hg hcur (by omega) hcm hsz
    rw [hzl, ← ets] at h2
    exact h2

def ThPost (m : Sim) (w : World) (at_ d : Int) (e : Ending) (w' : World) : Prop :=
  Below w.heap.size w w' ∧ ∃ (v : Value) (ts : List Nat), e = .returned v ∧ IsTh m at_ d ts ∧ w'.ownsRow w.heap.size 3 1 v ts.length (ts.map natV)
theorem Sgl.is {wb w0 w : World} {m : Sim} {M : Nat} {a : Option Addr} {c : Nat} {str : ByteArray} {f i : Nat} {st : Int} {lv : Value} {T : List (Nat × Nat)} {ts : List Nat} (h : Sgl wb w0 m M a c str f i st lv T w) (hr : rightAll m.L) (hf : f ≤ i) (hi : i ≤ m.s.length) (h1 : ts.Pairwise (· < ·)) (h2 : ∀ k, k ∈ ts ↔ k ∈ T.map Prod.fst) : IsTh m f i ts := by
  obtain ⟨mk, sv, St, hR, ht, -, -⟩ := h
  refine ⟨h1, fun k => ?_⟩
  rw [h2, ht.mem]
  constructor
  · intro h3
    exact ⟨hr, by omega, by omega, by omega, h3.1, by simpa using h3.2⟩
  · rintro ⟨-, -, -, -, h3, h4⟩
    exact ⟨h3, by simpa using h4⟩
set_option maxRecDepth 100000 in
set_option maxHeartbeats 16000000 in
theorem Threads_any (w : World) (m : Sim) (a : Option Addr) (c : Nat) (str : ByteArray) (at_ d : Int) (h : Pre w m a str) :
    Calls Try.prog 37 #[.agg #[.slice a m.L.length c, .bool m.lines], .string str, .int .i64 at_, .int .i64 d] w (ThPost m w at_ d) := by
  have hsz := size_eq h.s
  have HPN : Hid (∀ w', Below w.heap.size w w' → (¬ rightAll m.L ∨ at_ < 0 ∨ (str.size : Int) < d ∨ d < at_) → ThPost m w at_ d (.returned (.slice none 0 0)) w') := fun w' h1 h2 => ⟨h1, _, [], rfl, IsTh.nil (by rw [hsz]; exact h2), World.ownsRow_nil _ _ _ _⟩
  have HPY : Hid (∀ w' v ts, Below w.heap.size w w' → IsTh m at_ d ts → w'.ownsRow w.heap.size 3 1 v ts.length (ts.map natV) → ThPost m w at_ d (.returned v) w') := fun w' v ts h1 h2 h3 => ⟨h1, v, ts, rfl, h2, h3⟩
  have HSZ := hid hsz
  clear hsz
  generalize ThPost m w at_ d = PP at *
  have hshort := h.short
  have hfew := h.few
  have HBX : Hid (Row (w.alloc (.cells #[.slice a m.L.length c, .bool m.lines] 59)) w.heap.size [.slice a m.L.length c, .bool m.lines] 59) := Row.at w [.slice a m.L.length c, .bool m.lines] _
  have HB0 : Hid (Below w.heap.size w (w.alloc (.cells #[.slice a m.L.length c, .bool m.lines] 59))) := Grow.alloc w _
  have HPR := hid (h.below HB0.out)
  clear h
  have HS := hid (simulate_any (w.alloc (.cells #[.slice a m.L.length c, .bool m.lines] 59)) m a c str HPR.out.ins HPR.out.few)
  go_enter Try.func37, Try.ntmps37
  go_upto_region 1 with fail
  generalize w.alloc (.cells #[.slice a m.L.length c, .bool m.lines] 59) = w1 at *
  have q : w1.cell? ⟨w.heap.size, 0, none⟩ = some (.slice a m.L.length c) ∧ w1.cell? ⟨w.heap.size, 1, none⟩ = some (.bool m.lines) := ⟨HBX.out.cell 0, HBX.out.cell 1⟩
  have HBL : Hid (w.heap.size < w1.heap.size) := HBX.out.lt
  have HW1 : Hid (w.heap.size ≤ w1.heap.size) := Nat.le_of_lt HBL.out
  generalize hb0 : w.heap.size = b0 at q HBX HBL
  go_wp2_with fail
  refine HS.out.mono ?_
  rintro e w2 (⟨hnr, rfl, hb2⟩ | ⟨hr, M, rfl, hr2, hb2⟩)
  · have HB2 := hid (HB0.out.trans (hb2.mono HW1.out))
    have HNR := hid hnr
    clear hb2 hnr
    go_wp2_with fail
    all_goals (try go_ret)
    all_goals exact HPN.out _ HB2.out (.inl HNR.out)
  have HB2 := hid (HB0.out.trans (hb2.mono HW1.out))
  have HR2 := hid hr2
  have HRI := hid hr
  have HE := hid (HPR.out.env hr)
  clear hb2 hr2 hr
  rcases Int.lt_or_le at_ 0 with h0 | h0
  · go_wp2_with fail
    all_goals (try go_ret)
    all_goals exact HPN.out _ HB2.out (.inr (.inl h0))
  rcases Int.lt_or_le (str.size : Int) d with h1 | h1
  · go_wp2_with fail
    all_goals (try go_ret)
    all_goals exact HPN.out _ HB2.out (.inr (.inr (.inl h1)))
  rcases Int.lt_or_le d at_ with h2 | h2
  · go_wp2_with fail
    all_goals (try go_ret)
    all_goals exact HPN.out _ HB2.out (.inr (.inr (.inr h2)))
  obtain ⟨f, rfl⟩ := Int.eq_ofNat_of_zero_le h0
  obtain ⟨dn, rfl⟩ := Int.eq_ofNat_of_zero_le (show 0 ≤ d by omega)
  have q2 := HR2.out.sim.cells
  have z2 := HR2.out.sim.lt
  have f2 := HR2.out.sim.free
  have HR3 := hid (HR2.out.step 1)
  have hfs : f ≤ str.size := by omega
  have hfd : f ≤ dn := by omega
  have hds : dn ≤ str.size := by omega
  have HF := hid (sgl_first w1 w2 (w2.setCell ⟨M, 4099, none⟩ (.int .i64 1)) m M a c str f HE.out HR3.out hfs)
  clear q
  go_wp2_with fail
  generalize w2.setCell ⟨M, 4099, none⟩ (.int .i64 1) = w3 at *
  refine HF.out.mono ?_
  rintro e w4 ⟨lv, T0, rfl, hsg⟩
  obtain ⟨la0, lc0, hla0⟩ : ∃ la lc, lv = .slice la T0.length lc := by
    obtain ⟨mk, sv, St, h1, -⟩ := id hsg
    exact ownsRow_shape h1.lst
  subst hla0
  have HSG := hid hsg
  clear hsg q2 z2 f2 HF HR3 HR2
  go_wp2_with fail
  go_loopw [10, 11] (fun vl vi wr => ∃ (i : Nat) (la : Option Addr) (lc : Nat) (T : List (Nat × Nat)), i ≤ dn ∧ f ≤ i ∧ vi = .int .i64 i ∧ vl = .slice la T.length lc ∧ Hid (Sgl w1 w2 m M a c str f i ((i : Int) - f + 1) (.slice la T.length lc) T wr)) (fun _ vi _ => dn - (intOf vi).toNat)
  case atStart =>
    refine ⟨f, la0, lc0, T0, hfd, Nat.le_refl _, rfl, rfl, ?_⟩
    rw [show (f : Int) - f + 1 = 1 by omega]
    exact HSG.out
  case round =>
    obtain ⟨i, la, lc, T, hi, hfi, rfl, rfl, HSG⟩ := hrel
    rcases Nat.lt_or_ge i dn with hid1 | hid1
    · have HNX := hid (sgl_next w1 w2 wr m M a c str f i ((i : Int) - f + 1) (.slice la T.length lc) T HE.out HSG.out hfi (by omega) (by omega))
      go_wp2_with fail
      refine HNX.out.mono ?_
      rintro e w5 ⟨lv5, T5, rfl, hsg5⟩
      obtain ⟨la5, lc5, hla5⟩ : ∃ la lc, lv5 = .slice la T5.length lc := by
        obtain ⟨mk, sv, St, h1, -⟩ := id hsg5
        exact ownsRow_shape h1.lst
      subst hla5
      rw [show (i : Int) - f + 1 + 1 = ((i + 1 : Nat) : Int) - f + 1 by omega] at hsg5
      have HSG5 := hid hsg5
      clear hsg5 HNX
      go_wp2_with fail
      all_goals
        refine ⟨⟨i + 1, la5, lc5, T5, hid1, by omega, rfl, rfl, HSG5.out⟩, ?_⟩
        show dn - ((i : Int) + 1).toNat < dn - (i : Int).toNat
        omega
    obtain rfl : i = dn := by omega
    have HLW : Hid (Below b0 w wr) := by
      obtain ⟨mk, sv, St, hr, -, -, -⟩ := id HSG.out
      have h5 := HB0.out.trans (hr.low.mono HW1.out)
      rw [hb0] at h5
      exact h5
    have hTl : T.length ≤ 4096 := by
      obtain ⟨_, _, _, _, _, _, h⟩ := HSG.out
      omega
    have HND : Hid (T.map Prod.fst).Nodup := by
      obtain ⟨_, _, _, _, ht, _, _⟩ := id HSG.out
      exact ht.nd
    have HLL : Hid (b0 ≤ wr.heap.size) := Nat.le_trans (Nat.le_of_lt HBL.out) (by
      obtain ⟨mk, sv, St, hr, -, -, -⟩ := id HSG.out
      exact hr.low.size)
    obtain ⟨BB, hBB⟩ : ∃ B, B = wr.heap.size := ⟨_, rfl⟩
    rw [← hBB] at HLL
    have HBB := hid hBB
    clear hBB
    go_wp2_with fail
    go_loopw [12, 58] (fun vo ix w6 => ∃ (q : Nat) (ao : Option Addr) (co : Nat), q ≤ T.length ∧ ix = .int .i64 q ∧ vo = .slice ao q co ∧ Hid (Below wr.heap.size wr w6 ∧ Below b0 w w6 ∧ BB ≤ w6.heap.size ∧ w6.ownsRow BB 3 1 (.slice ao q co) q (((T.take q).map Prod.fst).map natV))) (fun _ ix _ => T.length - (intOf ix).toNat)
    case atStart => exact ⟨0, none, 0, by omega, rfl, rfl, Below.refl _ _, HLW.out, by rw [HBB.out]; exact Nat.le_refl _, World.ownsRow_nil _ _ _ _⟩
    case round =>
      obtain ⟨q, ao, co, hq, rfl, rfl, HO⟩ := hrel
      rcases Nat.lt_or_ge q T.length with hlt | hge
      · have HS2 := hid (HSG.out.more HO.out.1)
        obtain ⟨mk, sv, St, hr, ht, -, -⟩ := id HS2.out
        have hkn : T[q].1 < m.L.length := ht.lt HE.out.right (List.getElem_mem hlt)
        obtain ⟨tg, htg, htz, htc⟩ : ∃ g, la = some ⟨g, 0, none⟩ ∧ g < wr.heap.size ∧ (wr.cell? ⟨g, q * 2, none⟩ = some (.int .i64 (T[q].1 : Nat)) ∧ wr.cell? ⟨g, q * 2 + 1, none⟩ = some (.int .i64 (T[q].2 : Nat))) := by
          obtain ⟨-, h2⟩ := id hr.lst
          rcases h2 with ⟨-, h2⟩ | ⟨g, cap, cur, hv, -⟩
          · omega
          · injection hv with e1
            subst e1
            refine ⟨g, rfl, (hr.lst.lt g rfl).2, ?_, ?_⟩
            · have h1 := World.ownsRow.cells hr.lst (g := g) rfl (q * 2) (.int .i64 (T[q].1 : Nat)) (by have h0 := flatT_get T q 0 hlt (by omega); rw [Nat.add_zero] at h0; rw [h0]; rfl)
              rw [Addr.add_lit, Nat.zero_add] at h1
              exact h1
            · have h1 := World.ownsRow.cells hr.lst (g := g) rfl (q * 2 + 1) (.int .i64 (T[q].2 : Nat)) (by rw [flatT_get T q 1 hlt (by omega)]; rfl)
              rw [Addr.add_lit, Nat.zero_add] at h1
              exact h1
        subst htg
        obtain ⟨tc0, tc1⟩ := htc
        have HTK : Hid (((T.take (q + 1)).map Prod.fst).map natV = ((T.take q).map Prod.fst).map natV ++ [.int .i64 (T[q].1 : Nat)]) := by
          show _ = _
          rw [List.take_add_one, List.getElem?_eq_getElem hlt, List.map_append, List.map_append]
          rfl
        clear hr ht
        generalize T[q] = t at *
        obtain ⟨k, fr⟩ := t
        simp only at tc0 tc1 hkn HTK
        have hqI : (q : Int) < (T.length : Int) := by omega
        generalize ((T.take q).map Prod.fst).map natV = XS at *
        have HG : Hid (Below wr.heap.size wr (wr.alloc (.cells #[.int .i64 k, .int .i64 fr] 96)) ∧ Row (wr.alloc (.cells #[.int .i64 k, .int .i64 fr] 96)) wr.heap.size [.int .i64 k, .int .i64 fr] 96) := ⟨Grow.alloc wr _, Row.at wr [.int .i64 k, .int .i64 fr] _⟩
        have HY : Hid (Below b0 w (wr.alloc (.cells #[.int .i64 k, .int .i64 fr] 96)) ∧ (wr.alloc (.cells #[.int .i64 k, .int .i64 fr] 96)).ownsRow BB 3 1 (.slice ao q co) q XS) := by
          refine ⟨HO.out.2.1.trans (HG.out.1.mono (Nat.le_trans HLL.out HO.out.2.2.1)), ownsRow_heap HO.out.2.2.2 fun g hg => HG.out.1.block g (HO.out.2.2.2.lt g hg).2⟩
        have HYR := hid (HO.out.1.trans (HG.out.1.mono HO.out.1.size))
        have HYB : Hid (BB ≤ (wr.alloc (.cells #[.int .i64 k, .int .i64 fr] 96)).heap.size) := Nat.le_trans HO.out.2.2.1 HG.out.1.size
        have qk : (wr.alloc (.cells #[.int .i64 k, .int .i64 fr] 96)).cell? ⟨wr.heap.size, 0, none⟩ = some (.int .i64 k) := HG.out.2.cell 0
        go_upto_region 14 with fail
        clear tc0 tc1 HS2 HO HG
        generalize wr.alloc (.cells #[.int .i64 k, .int .i64 fr] 96) = y at *
        generalize wr.heap.size = bt at *
        obtain ⟨i0, hi, hz0, hz1, hz2⟩ := info_parts info_intT
        have HAL : Hid (Below y.heap.size y (y.alloc (.cells #[.int .i64 k] 3))) := Grow.alloc y _
        have HOA : Hid ((y.alloc (.cells #[.int .i64 k] 3)).ownsRow BB 3 1 (.slice ao q co) q XS) := ownsRow_heap HY.out.2 fun g hg => HAL.out.block g (HY.out.2.lt g hg).2
        go_wp2_with (at_builtin; refine wpList_append_row rfl _ _ 69 rfl BB 3 i0 (.int .i64 0) 1 8 Try.underlying69 hi hz0 hz1 hz2 rfl (by decide) _ q XS rfl HOA.out ⟨y.heap.size, 0, none⟩ 1 1 [.int .i64 k] rfl rfl ?c1 ?c2 ?c3 ?c4 ?c5 (by decide) ?_)
        case c1 =>
          intro j u hj
          rw [Addr.add_lit, Nat.zero_add]
          exact (Row.new (w := y) (cs := [.int .i64 k]) (T := 3) rfl).cell j ▸ hj
        case c2 => intro u hu; simp at hu; subst hu; rfl
        case c3 => unfold maxLen; omega
        case c4 => omega
        case c5 => have := HYB.out; simp; omega
        intro a2 c2 w3 hown hgrow hnw
        have hlo : ∀ j, (Value.slice ao q co).ownBlock = some j → BB ≤ j := fun j hj => (HOA.out.lt j hj).1
        have HR3 := hid ((HYR.out.trans (HAL.out.mono HYR.out.size)).grown hgrow (by have h1 := HYB.out; have h2 := HAL.out.size; rw [← HBB.out]; omega) (fun j hj => by rw [← HBB.out]; exact hlo j hj))
        have HL3 := hid ((HY.out.1.trans (HAL.out.mono (Nat.le_trans HLL.out HYB.out))).grown hgrow (by have h1 := HYB.out; have h2 := HAL.out.size; have h3 := HLL.out; omega) (fun j hj => Nat.le_trans HLL.out (hlo j hj)))
        have HZ3 : Hid (BB ≤ w3.heap.size) := by have h1 := HYB.out; have h2 := HAL.out.size; have h3 := hgrow.size; show _ ≤ _; omega
        rw [← HTK.out] at hown
        have HO3 := hid hown
        clear hown hgrow hnw hlo HY HYR HOA HAL hi hz0 hz1 hz2
        go_wp2_with fail
        all_goals
          refine ⟨⟨q + 1, a2, c2, hlt, rfl, rfl, HR3.out, HL3.out, HZ3.out, HO3.out⟩, ?_⟩
          show T.length - ((q : Int) + 1).toNat < T.length - (q : Int).toNat
          omega
      · obtain rfl : q = T.length := by omega
        rw [List.take_length] at HO
        have HST := hid (sort_row HO.out.2.2.2 HND.out (by omega))
        have HIS := hid (fun ts h1 h2 => HSG.out.is (ts := ts) HRI.out hfi (by rw [HSZ.out]; exact hds) h1 h2)
        go_wp2_with fail
        refine HST.out.mono ?_
        rintro e w7 ⟨rfl, hg, ts, hasc, hmem, htl, hown⟩
        have HB7 := hid (HO.out.2.1.grown hg (Nat.le_trans HLL.out HO.out.2.2.1) (fun j hj => Nat.le_trans HLL.out (HO.out.2.2.2.lt j hj).1))
        have HI7 := hid (HIS.out ts hasc hmem)
        have HO7 := hid (ownsRow_base hown HLL.out)
        clear hg hasc hmem hown HIS HST
        go_wp2_with fail
        all_goals (try go_ret)
        subst hb0
        refine HPY.out _ _ ts HB7.out HI7.out ?_
        rw [htl]
        exact HO7.out
end Go.Proofs.Ythnpbopnpdlmnaa

/- The law's few, alternatives and awake. -/
namespace Go.Proofs.Ythnpbopnpdlmnaa
open Go.RowKit
attribute [local go_sem] gives givesUpon

theorem InsAt.of_own {w : World} {base : Nat} {a : Option Addr} {n c : Nat} {L : List Inst} (h : OwnI w base (.slice a n c) L) : InsAt w a L := by
  rcases Nat.eq_zero_or_pos L.length with h0 | h0
  · exact .inl (List.length_eq_zero_iff.1 h0)
  · obtain ⟨-, g, rfl, -, -⟩ := h.elem 0 _ (List.getElem?_eq_getElem h0)
    refine .inr ⟨g, 0, rfl, (h.lt g rfl).2, fun i hi => ?_⟩
    obtain ⟨-, g', hg, -, -, h3, -⟩ := h.elem i _ (List.getElem?_eq_getElem hi)
    obtain rfl : g = g' := by injection hg with h; injection h
    rw [Nat.zero_add]
    exact h3
set_option maxRecDepth 100000 in
set_option maxHeartbeats 4000000 in
theorem alternatives_any (w : World) : Calls Try.prog 36 #[] w fun e w' => ∃ cs, e = .returned (.agg cs.toArray) ∧ E11.In w' cs ∧ Below w.heap.size w w' := by
  have HR0 : Hid (Row (w.alloc (.cells #[.int .i64 0, .int .u64 0, .int .u64 0, .int .u64 0, .int .u64 0, .int .i64 0, .int .i64 0, .int .i64 0, .slice none 0 0] 28)) w.heap.size [.int .i64 0, .int .u64 0, .int .u64 0, .int .u64 0, .int .u64 0, .int .i64 0, .int .i64 0, .int .i64 0, .slice none 0 0] 28 ∧ Below w.heap.size w (w.alloc (.cells #[.int .i64 0, .int .u64 0, .int .u64 0, .int .u64 0, .int .u64 0, .int .i64 0, .int .i64 0, .int .i64 0, .slice none 0 0] 28))) := ⟨Row.new (cs := [.int .i64 0, .int .u64 0, .int .u64 0, .int .u64 0, .int .u64 0, .int .i64 0, .int .i64 0, .int .i64 0, .slice none 0 0]) rfl, (Below.refl _ w).alloc (Nat.le_refl _) _⟩
  have HZ0 : Hid (w.heap.size < (w.alloc (.cells #[.int .i64 0, .int .u64 0, .int .u64 0, .int .u64 0, .int .u64 0, .int .i64 0, .int .i64 0, .int .i64 0, .slice none 0 0] 28)).heap.size) := by show _ < _; simp
  have HPP : Hid (∀ cs w', E11.In w' cs → Below w.heap.size w w' → ∃ cs', Ending.returned (.agg cs.toArray) = .returned (.agg cs'.toArray) ∧ E11.In w' cs' ∧ Below w.heap.size w w') := fun cs w' h1 h2 => ⟨cs, rfl, h1, h2⟩
  go_enter Try.func36, Try.ntmps36
  go_upto_region 1 with fail
  generalize w.alloc (.cells #[.int .i64 0, .int .u64 0, .int .u64 0, .int .u64 0, .int .u64 0, .int .i64 0, .int .i64 0, .int .i64 0, .slice none 0 0] 28) = w0 at *
  generalize hb0 : w.heap.size = b0 at HR0 HZ0
  go_wp2_with fail
  refine (byte9_any 97 _).mono ?_
  rintro e w1 ⟨rfl, hb1⟩
  go_wp2_with fail
  refine (byte9_any 97 _).mono ?_
  rintro e w2 ⟨rfl, hb2⟩
  have HB2 : Hid (Below w0.heap.size w0 w2) := hb1.trans (hb2.mono hb1.size)
  clear hb1 hb2
  go_wp2_with fail
  refine (byte9_any 98 _).mono ?_
  rintro e w3 ⟨rfl, hb3⟩
  have HB3 : Hid (Below w0.heap.size w0 w3) := HB2.out.trans (hb3.mono HB2.out.size)
  clear hb3 HB2
  go_wp2_with fail
  refine (node9_any 3 _ _ _ _).mono ?_
  rintro e w4 ⟨rfl, hb4⟩
  have hr4 := (Row.new (w := w3) (B := w3.heap.size) (T := 28) (cs := [.int .i64 2, .int .u64 (Cs.of [97]).a, .int .u64 (Cs.of [97]).b, .int .u64 (Cs.of [97]).c, .int .u64 (Cs.of [97]).d, .int .i64 0, .int .i64 0, .int .i64 0, .slice none 0 0] ++ [.int .i64 2, .int .u64 (Cs.of [98]).a, .int .u64 (Cs.of [98]).b, .int .u64 (Cs.of [98]).c, .int .u64 (Cs.of [98]).d, .int .i64 0, .int .i64 0, .int .i64 0, .slice none 0 0]) rfl).below hb4 (by simp)
  have HT4 : Hid ((Re.mk (Pay.of 3) [byteRe 97, byteRe 98]).In w4 [.int .i64 3, .int .u64 0, .int .u64 0, .int .u64 0, .int .u64 0, .int .i64 0, .int .i64 0, .int .i64 0, .slice (some ⟨w3.heap.size, 0, none⟩) 2 2]) := node2_in (Pay.of_wf (I64_of (by omega))) hr4 (byte_in 97 w4) (byte_in 98 w4) rfl
  have HB4 : Hid (Below w0.heap.size w0 w4) := (HB3.out.alloc HB3.out.size _).trans (hb4.mono (by have := HB3.out.size; simp; omega))
  have HK4 := hid hr4
  have HB43 : Hid (w0.heap.size ≤ w3.heap.size) := HB3.out.size
  clear hb4 hr4 HB3
  generalize w3.heap.size = B3 at *
  go_wp2_with fail
  refine (node9_any 4 _ _ _ _).mono ?_
  rintro e w5 ⟨rfl, hb5⟩
  have hal := (Below.refl w4.heap.size w4).alloc (Nat.le_refl _) (.cells ([.int .i64 2, .int .u64 (Cs.of [97]).a, .int .u64 (Cs.of [97]).b, .int .u64 (Cs.of [97]).c, .int .u64 (Cs.of [97]).d, .int .i64 0, .int .i64 0, .int .i64 0, .slice none 0 0] ++ [.int .i64 3, .int .u64 0, .int .u64 0, .int .u64 0, .int .u64 0, .int .i64 0, .int .i64 0, .int .i64 0, .slice (some ⟨B3, 0, none⟩) 2 2] : List Value).toArray 28)
  have hr5 := (Row.new (w := w4) (B := w4.heap.size) (T := 28) (cs := [.int .i64 2, .int .u64 (Cs.of [97]).a, .int .u64 (Cs.of [97]).b, .int .u64 (Cs.of [97]).c, .int .u64 (Cs.of [97]).d, .int .i64 0, .int .i64 0, .int .i64 0, .slice none 0 0] ++ [.int .i64 3, .int .u64 0, .int .u64 0, .int .u64 0, .int .u64 0, .int .i64 0, .int .i64 0, .int .i64 0, .slice (some ⟨B3, 0, none⟩) 2 2]) rfl).below hb5 (by simp)
  have hb45 : Below w4.heap.size w4 w5 := hal.trans (hb5.mono (by simp))
  have HT5 : Hid (E11.In w5 [.int .i64 4, .int .u64 0, .int .u64 0, .int .u64 0, .int .u64 0, .int .i64 0, .int .i64 0, .int .i64 0, .slice (some ⟨w4.heap.size, 0, none⟩) 2 2]) := node2_in (Pay.of_wf (I64_of (by omega))) hr5 (byte_in 97 w5) (HT4.out.below hb45) rfl
  have HB5 : Hid (Below w0.heap.size w0 w5) := HB4.out.trans (hb45.mono HB4.out.size)
  have hz5 : w4.heap.size < w5.heap.size := hr5.lt
  have HZ5 : Hid (b0 < w4.heap.size) := Nat.lt_of_lt_of_le HZ0.out HB4.out.size
  have HK5 := hid hr5
  have HK45 := hid (HK4.out.below hb45 HK4.out.lt)
  have hBB : Hid (b0 < B3) := Nat.lt_of_lt_of_le HZ0.out HB43.out
  clear hb5 hal hr5 hb45 HT4 HB4
  generalize w4.heap.size = B4 at *
  have HR5 := hid (HR0.out.1.below HB5.out HZ0.out)
  have q5 := HR5.out.c9
  have z5 := HR5.out.lt
  go_wp2_with fail
  refine ret_row 0 28 rfl b0 rfl [.int .i64 4, .int .u64 0, .int .u64 0, .int .u64 0, .int .u64 0, .int .i64 0, .int .i64 0, .int .i64 0, .slice (some ⟨B4, 0, none⟩) 2 2] (CellsAt.of_row (T := 28) (HR5.out.set9 _ _ _ _ _ _ _ _ _)) _ Try.underlying28 rfl (size_relen rfl) rfl ?_
  have hne4 := HZ5.out
  have hne3 := hBB.out
  have hbut : But [b0] w5 (((((((((w5.setCell ⟨b0, 0, none⟩ (.int .i64 4)).setCell ⟨b0, 1, none⟩ (.int .u64 0)).setCell ⟨b0, 2, none⟩ (.int .u64 0)).setCell ⟨b0, 3, none⟩ (.int .u64 0)).setCell ⟨b0, 4, none⟩ (.int .u64 0)).setCell ⟨b0, 5, none⟩ (.int .i64 0)).setCell ⟨b0, 6, none⟩ (.int .i64 0)).setCell ⟨b0, 7, none⟩ (.int .i64 0)).setCell ⟨b0, 8, none⟩ (.slice (some ⟨B4, 0, none⟩) 2 2)) := (But.refl _ _).set9 (.inl (by simp)) _ _ _ _ _ _ _ _ _
  have hx4 := HK45.out.but hbut (by simp; omega)
  have hx5 := HK5.out.but hbut (by simp; omega)
  refine HPP.out [.int .i64 4, .int .u64 0, .int .u64 0, .int .u64 0, .int .u64 0, .int .i64 0, .int .i64 0, .int .i64 0, .slice (some ⟨B4, 0, none⟩) 2 2] _ ?_ ?_
  · exact node2_in (Pay.of_wf (I64_of (by omega))) hx5 (byte_in 97 _) (node2_in (Pay.of_wf (I64_of (by omega))) hx4 (byte_in 97 _) (byte_in 98 _) rfl) rfl
  · subst hb0
    exact below9 (HR0.out.2.trans (HB5.out.mono HR0.out.2.size)) (Nat.le_refl _) _ _ _ _ _ _ _ _ _
theorem Comp11_any (w : World) (cs : List Value) (h : E11.In w cs) : Calls Try.prog 21 #[.agg cs.toArray, .bool false] w fun e w' => ∃ (a : Option Addr) (c : Nat), e = .returned (.tuple #[.agg #[.slice a 6 c, .bool false], .int .i64 0]) ∧ InsAt w' a L6 ∧ Below w.heap.size w w' := by
  refine (CompileRef_any E11 false w cs h (by decide)).mono ?_
  rintro e w' ⟨a, n, c, rfl, h1, h2⟩
  have hn := h1.n
  rw [E11_comp] at hn h1
  have hn6 : n = 6 := hn
  subst hn6
  refine ⟨a, c, ?_, InsAt.of_own h1, h2⟩
  rw [E11_comp]
  rfl
theorem wf6 : ∀ k (h : k < L6.length), L6[k].set.wf := by
  intro k h
  have h6 : L6.length = 6 := rfl
  have hk : k = 0 ∨ k = 1 ∨ k = 2 ∨ k = 3 ∨ k = 4 ∨ k = 5 := by omega
  have hn : Cs.none.wf := ⟨by unfold W64; decide, by unfold W64; decide, by unfold W64; decide, by unfold W64; decide⟩
  rcases hk with rfl | rfl | rfl | rfl | rfl | rfl
  · exact hn
  · exact Cs.of_wf [97]
  · exact hn
  · exact Cs.of_wf [97]
  · exact Cs.of_wf [98]
  · exact hn
def s2 : ByteArray := ⟨#[97, 98]⟩
def s3 : ByteArray := ⟨#[120, 97, 98]⟩
theorem pre2 {w : World} {a : Option Addr} (h : InsAt w a L6) : Pre w m2 a s2 := ⟨h, wf6, rfl, by decide, by decide⟩
theorem pre3 {w : World} {a : Option Addr} (h : InsAt w a L6) : Pre w m3 a s3 := ⟨h, wf6, rfl, by decide, by decide⟩
theorem right6 : rightAll L6 := by
  have := Re.compiled_right (t := E11) (by rw [E11_comp])
  rw [E11_comp] at this
  exact this
set_option maxRecDepth 100000 in
set_option maxHeartbeats 4000000 in
theorem awake11_any (w : World) : Calls Try.prog 20 #[] w fun e w' => e = .returned (.bool true) ∧ Below w.heap.size w w' := by
  go_enter Try.func20, Try.ntmps20
  go_wp2_with fail
  refine (alternatives_any _).mono ?_
  rintro e w1 ⟨cs, rfl, hin, hb1⟩
  have HC := hid (Comp11_any w1 cs hin)
  have HB1 := hid hb1
  clear hin hb1
  go_wp2_with fail
  refine HC.out.mono ?_
  rintro e w2 ⟨a, c, rfl, hins, hb2⟩
  have HB2 := hid (HB1.out.trans (hb2.mono HB1.out.size))
  have HI2 := hid hins
  clear hins hb2 HC HB1
  have HR3 : Hid (Row (w2.alloc (.cells #[.slice a 6 c, .bool false] 59)) w2.heap.size [.slice a 6 c, .bool false] 59) := Row.at w2 [.slice a 6 c, .bool false] _
  have HAL : Hid (Below w2.heap.size w2 (w2.alloc (.cells #[.slice a 6 c, .bool false] 59))) := Grow.alloc w2 _
  have HI3 : Hid (InsAt (w2.alloc (.cells #[.slice a 6 c, .bool false] 59)) a L6) := HI2.out.below HAL.out (Nat.le_refl _)
  have HB3 := hid (HB2.out.trans (HAL.out.mono HB2.out.size))
  go_upto_region 2 with fail
  generalize w2.alloc (.cells #[.slice a 6 c, .bool false] 59) = w3 at *
  generalize w2.heap.size = pb at *
  have q3 : w3.cell? ⟨pb, 0, none⟩ = some (.slice a 6 c) ∧ w3.cell? ⟨pb, 1, none⟩ = some (.bool false) := ⟨HR3.out.cell 0, HR3.out.cell 1⟩
  have HLG : Hid (Calls Try.prog 22 #[.agg #[.slice a 6 c, .bool false], .string ⟨#[97, 98]⟩, .int .i64 0] w3 (LgPost m2 w3 0)) := Longest_any w3 m2 a c s2 0 (pre2 HI3.out)
  go_wp2_with fail
  refine HLG.out.mono ?_
  rintro e w4 ⟨hb4, hlg⟩
  have hlg2 : e = .returned (.tuple #[.int .i64 2, .bool true]) := by
    rcases hlg with ⟨h1, -⟩ | ⟨h1, f, b, h2, h3, h4, h5⟩
    · rcases h1 with h1 | h1 | h1
      · exact absurd right6 h1
      · omega
      · have h2 : (2 : Int) < 0 := h1
        omega
    · obtain rfl : f = 0 := by omega
      have e : b = some 2 := long_m2 h4
      subst e
      exact h5
  subst hlg2
  have HR4 := hid (HR3.out.below hb4 HR3.out.lt)
  have HI4 := hid (HI3.out.below hb4 (Nat.le_refl _))
  have HB4 := hid (HB3.out.trans (hb4.mono HB3.out.size))
  have q4 : w4.cell? ⟨pb, 0, none⟩ = some (.slice a 6 c) ∧ w4.cell? ⟨pb, 1, none⟩ = some (.bool false) := ⟨HR4.out.cell 0, HR4.out.cell 1⟩
  clear hb4 hlg q3 HLG
  have HTH : Hid (Calls Try.prog 37 #[.agg #[.slice a 6 c, .bool false], .string ⟨#[97, 98]⟩, .int .i64 0, .int .i64 1] w4 (ThPost m2 w4 0 1)) := Threads_any w4 m2 a c s2 0 1 (pre2 HI4.out)
  go_wp2_with fail
  refine HTH.out.mono ?_
  rintro e w5 ⟨hb5, v5, ts, rfl, hts, hown⟩
  have htl := th_m2 hts
  rw [htl] at hown
  obtain ⟨a5, c5, rfl⟩ := ownsRow_shape hown
  have HR5 := hid (HR4.out.below hb5 HR4.out.lt)
  have HI5 := hid (HI4.out.below hb5 (Nat.le_refl _))
  have HB5 := hid (HB4.out.trans (hb5.mono HB4.out.size))
  have q5 : w5.cell? ⟨pb, 0, none⟩ = some (.slice a 6 c) ∧ w5.cell? ⟨pb, 1, none⟩ = some (.bool false) := ⟨HR5.out.cell 0, HR5.out.cell 1⟩
  clear hb5 hts hown q4 HTH htl
  have HSR : Hid (Calls Try.prog 23 #[.agg #[.slice a 6 c, .bool false], .string ⟨#[120, 97, 98]⟩, .int .i64 0] w5 (SrPost m3 w5 0)) := Search_any w5 m3 a c s3 0 (pre3 HI5.out)
  go_wp2_with fail
  refine HSR.out.mono ?_
  rintro e w6 ⟨hb6, hsr⟩
  have hsr2 : e = .returned (.tuple #[.agg #[.int .i64 1, .int .i64 3], .bool true]) := by
    rcases hsr with ⟨h1, -⟩ | ⟨h1, f, b, h2, h3, h4, h5⟩
    · rcases h1 with h1 | h1 | h1
      · exact absurd right6 h1
      · omega
      · have h2 : (3 : Int) < 0 := h1
        omega
    · obtain rfl : f = 0 := by omega
      have e : b = some (1, 3) := best_m3 h4
      subst e
      exact h5
  subst hsr2
  have HB6 := hid (HB5.out.trans (hb6.mono HB5.out.size))
  clear hb6 hsr q5 HSR
  have HR7 : Hid (Row (w6.alloc (.cells #[.int .i64 1, .int .i64 3] 47)) w6.heap.size [.int .i64 1, .int .i64 3] 47) := Row.at w6 [.int .i64 1, .int .i64 3] _
  have HB7 : Hid (Below w.heap.size w (w6.alloc (.cells #[.int .i64 1, .int .i64 3] 47))) := HB6.out.alloc HB6.out.size _
  go_upto_region 5 with fail
  generalize w6.alloc (.cells #[.int .i64 1, .int .i64 3] 47) = w7 at *
  have q7 : w7.cell? ⟨w6.heap.size, 0, none⟩ = some (.int .i64 1) ∧ w7.cell? ⟨w6.heap.size, 1, none⟩ = some (.int .i64 3) := ⟨HR7.out.cell 0, HR7.out.cell 1⟩
  go_wp2_with fail
  all_goals (try go_ret)
  all_goals exact ⟨rfl, HB7.out⟩
end Go.Proofs.Ythnpbopnpdlmnaa

/- The reference of the parses: spans with another one, spans without those of groups. -/
namespace Go.Proofs.Ythnpbopnpdlmnaa
open Go.RowKit
attribute [local go_sem] gives givesUpon

theorem SpQ.get {w : World} {v : Value} {sp : Spans} (h : SpQ w v sp) {k : Nat} (hk : k < sp.length) : ∃ (b c : Nat) (x1 x2 : Int), sp[k]? = some (x1, x2) ∧ v = .slice (some ⟨b, 0, none⟩) sp.length c ∧ b < w.heap.size ∧ (∃ cs, Row w b cs 47) ∧ w.cell? ⟨b, k * 2, none⟩ = some (.int .i64 x1) ∧ w.cell? ⟨b, k * 2 + 1, none⟩ = some (.int .i64 x2) := by
  obtain ⟨a, c, e, h1 | ⟨b, more, h1, h2⟩⟩ := h
  · rw [h1] at hk; simp at hk
  · subst h1
    have hx := spc_get sp k sp[k] (by simp [hk])
    have hl := spc_length sp
    refine ⟨b, c, sp[k].1, sp[k].2, by simp [hk], e, h2.lt, ⟨_, h2⟩, ?_, ?_⟩
    · rw [h2.cell, List.getElem?_append_left (by omega), show k * 2 = 2 * k by omega, hx.1]
    · rw [h2.cell, List.getElem?_append_left (by omega), show k * 2 + 1 = 2 * k + 1 by omega, hx.2]
theorem SpQ.lit {w : World} {b : Nat} {x1 x2 : Int} (hr : Row w b [.int .i64 x1, .int .i64 x2] 47) : SpQ w (.slice (some ⟨b, 0, none⟩) 1 1) [(x1, x2)] := ⟨_, _, rfl, .inr ⟨b, [], rfl, by simpa [spc] using hr⟩⟩
theorem OwnSp.nil (w : World) (base : Nat) : OwnSp w base (.slice none 0 0) [] := ⟨fun _ => rfl, World.ownsRow_nil _ _ _ _⟩
theorem OwnSp.lt {w : World} {base : Nat} {v : Value} {l : Spans} (h : OwnSp w base v l) : ∀ g, v.ownBlock = some g → base ≤ g ∧ g < w.heap.size := World.ownsRow.lt h.2
theorem wpList_append_sp {ops : Array Oper} {rest : List Oper} {o : Oper} {a : Act} {w : World} {Q : Exit → Act → World → Prop} (hgd : o.guard = none) (s x : Operand)
    (ho : o.op = .call { callee := .builtin .append, args := #[s, x], argTypes := #[38, 38] }) (base : Nat) (v : Value) (l m : Spans) (u : Value) (hs : a.eval s = v) (hown : OwnSp w base v l) (hx : a.eval x = u) (hsrc : SpQ w u m) (hm : m ≠ [])
    (hsz : l.length + m.length ≤ 1000000) (hbase : base ≤ w.heap.size)
    (h : ∀ a' n' c' w', n' = (l ++ m).length → OwnSp w' base (.slice a' n' c') (l ++ m) → w.grownBy w' v.ownBlock → (∀ g, (Value.slice a' n' c').ownBlock = some g → v.ownBlock = some g ∨ w.heap.size ≤ g) → wpList Try.prog ops Q rest (a.put o.dst (.slice a' n' c')) w') : wpList Try.prog ops Q (o :: rest) a w := by
  obtain ⟨i0, hi, hz0, hz1, hz2⟩ := info_parts info_span
  obtain ⟨sa, c, rfl, h1 | ⟨b, more, rfl, hr⟩⟩ := hsrc
  · exact absurd h1 hm
  · refine wpList_append_row hgd s x 38 ho base 47 i0 (.agg #[.int .i64 0, .int .i64 0]) 2 16 Try.underlying38 hi hz0 hz1 hz2 rfl (by decide) v l.length (spc l) hs hown.2 ⟨b, 0, none⟩ m.length c (spc m) hx (spc_length m) ?_ (spc_one m) (by unfold maxLen; omega) (by omega) hbase (List.length_pos_iff.2 hm) fun a' c' w' g1 g2 g3 => ?_
    · intro j u hj
      rw [Addr.add_lit, Nat.zero_add, hr.cell j]
      exact List.getElem?_append_left (List.getElem?_eq_some_iff.1 hj).1 ▸ hj
    · exact h a' _ c' w' (List.length_append).symm (OwnSp.app hm g1 rfl) g2 g3

set_option maxRecDepth 100000 in
set_option maxHeartbeats 8000000 in
theorem rwith_any (w : World) (sv : Value) (sp : Spans) (g : Nat) (i k : Int) (hsp : SpQ w sv sp) (hl : sp.length ≤ 9) (hg : 1 ≤ g ∧ g ≤ 9) :
    Calls Try.prog 53 #[sv, .int .i64 g, .int .i64 i, .int .i64 k] w fun e w' => ∃ a c, e = .returned (.slice a sp.length c) ∧ Below w.heap.size w w' ∧ SpQ w' (.slice a sp.length c) (sp.set (g - 1) (i, k)) := by
  obtain ⟨sa, sc, rfl⟩ := hsp.form
  obtain ⟨n, hnn⟩ : ∃ n, n = sp.length := ⟨_, rfl⟩
  have hn9 : n ≤ 9 := by omega
  have HNN := hid hnn
  rw [← hnn] at hsp ⊢
  have HS := hid hsp
  have hwg : IntKind.i64.wrap ((g : Int) - 1) = (g : Int) - 1 := by rw [IntKind.wrap_i64]; omega
  clear hsp hl hnn
  go_enter Try.func53, Try.ntmps53
  go_wp2_with fail
  go_loopw [9, 10] (fun v9 v10 wr => ∃ (j : Nat) (a : Option Addr) (m c : Nat), v9 = .slice a m c ∧ v10 = .int .i64 j ∧ j ≤ n ∧ Hid (m = j ∧ OwnSp wr w.heap.size (.slice a m c) ((sp.set (g - 1) (i, k)).take j) ∧ Below w.heap.size w wr)) (fun _ v10 _ => n - (intOf v10).toNat)
  case atStart => exact ⟨0, none, 0, 0, rfl, rfl, Nat.zero_le _, rfl, OwnSp.nil _ _, Below.refl _ _⟩
  case round =>
    obtain ⟨j, a, m, c, rfl, rfl, hj, HX⟩ := hrel
    by_cases hlt : j < n
    · have hltI : (j : Int) < (n : Int) := by omega
      obtain ⟨h0, h1, h2⟩ := HX.out
      obtain ⟨b, cc, x1, x2, hq, ev, hb, -, p0, p1⟩ := (HS.out.of (fun _ _ hr => hr.below h2 hr.lt) : SpQ wr _ sp).get (k := j) (by have := HNN.out; omega)
      injection ev with e1 e2 e3
      subst e1; subst e3
      clear e2
      have HO := hid (⟨h0, h1, h2⟩ : _ ∧ _ ∧ _)
      have hsz := h2.size
      have HT : Hid (∀ y, (sp.set (g - 1) (i, k))[j]? = some y → (sp.set (g - 1) (i, k)).take (j + 1) = (sp.set (g - 1) (i, k)).take j ++ [y]) := fun y hy => by rw [List.take_add_one, hy]; rfl
      have HQ := hid hq
      clear h0 h1 h2 hq
      by_cases hjg : j = g - 1
      · have d1 : ((j : Int) == (g : Int) - 1) = true := by simp; omega
        have HJG := hid hjg
        clear hjg
        go_wp2_with (at_builtin; refine wpList_append_sp rfl _ _ rfl w.heap.size _ ((sp.set (g - 1) (i, k)).take j) [(i, k)] _ rfl ?c0 rfl (SpQ.lit (Row.new (by simp))) (by simp) ?c2 ?c3 ?_)
        case c0 => exact HO.out.2.1.below (((Below.refl _ _).alloc (Nat.le_refl _) _).alloc (by simp) _)
        case c2 => simp; omega
        case c3 => simp; omega
        intro a2 n2 c2 w3 hn2 hown hgrow hnw
        have HZ : Hid (n2 = j + 1 ∧ OwnSp w3 w.heap.size (.slice a2 n2 c2) ((sp.set (g - 1) (i, k)).take (j + 1)) ∧ Below w.heap.size w w3) := by
          have hy := HT.out (i, k) (by rw [HJG.out, List.getElem?_set_self (by have := HNN.out; have := HJG.out; omega)])
          refine ⟨?_, by rw [hy]; exact hown, ((HO.out.2.2.alloc hsz _).alloc (by simp; omega) _).grown hgrow (by simp; omega) fun g hg => (HO.out.2.1.lt g hg).1⟩
          have := HNN.out
          rw [hn2]; simp; omega
        clear hown hgrow hnw hn2 p0 p1
        go_wp2_with fail
        refine ⟨⟨j + 1, a2, n2, c2, rfl, by go_num, by omega, HZ.out⟩, ?_⟩
        simp [intOf] <;> omega
      · have d1 : ((j : Int) == (g : Int) - 1) = false := by simp; omega
        have HJG := hid hjg
        clear hjg
        go_wp2_with (at_builtin; refine wpList_append_sp rfl _ _ rfl w.heap.size _ ((sp.set (g - 1) (i, k)).take j) [(x1, x2)] _ rfl ?c0 rfl (SpQ.lit (Row.new (by simp))) (by simp) ?c2 ?c3 ?_)
        case c0 => exact HO.out.2.1.below (((Below.refl _ _).alloc (Nat.le_refl _) _).alloc (by simp) _)
        case c2 => simp; omega
        case c3 => simp; omega
        intro a2 n2 c2 w3 hn2 hown hgrow hnw
        have HZ : Hid (n2 = j + 1 ∧ OwnSp w3 w.heap.size (.slice a2 n2 c2) ((sp.set (g - 1) (i, k)).take (j + 1)) ∧ Below w.heap.size w w3) := by
          have hy := HT.out (x1, x2) (by rw [List.getElem?_set_ne (fun e => HJG.out e.symm), HQ.out])
          refine ⟨?_, by rw [hy]; exact hown, ((HO.out.2.2.alloc hsz _).alloc (by simp; omega) _).grown hgrow (by simp; omega) fun g hg => (HO.out.2.1.lt g hg).1⟩
          have := HNN.out
          rw [hn2]; simp; omega
        clear hown hgrow hnw hn2 p0 p1
        go_wp2_with fail
        refine ⟨⟨j + 1, a2, n2, c2, rfl, by go_num, by omega, HZ.out⟩, ?_⟩
        simp [intOf] <;> omega
    · obtain rfl : j = n := by omega
      have hltI : ¬ (j : Int) < (j : Int) := by omega
      go_wp2_with fail
      go_ret
      obtain ⟨rfl, h1, h2⟩ := HX.out
      rw [List.take_of_length_le (by rw [List.length_set]; exact Nat.le_of_eq HNN.out.symm)] at h1
      exact ⟨a, c, rfl, h2, h1.q⟩
end Go.Proofs.Ythnpbopnpdlmnaa
